import Derived.Shelf.RegionOpenPlain
import Derived.WalkKit
import Derived.Lib.Walk
import Derived.Lib.SliceRun
import Derived.Lib.JoinLaws
import Derived.Lib.AppendZeros
import Derived.Lib.AppendZerosOnto
import Derived.Lib.Overlaps
import Derived.Laws.Externs
import Derived.Laws.IdiomCopy
import Derived.Shelf.Spec.SlicesInsert
import Derived.Deep.RegionLaw
import Derived.Deep.LoopGhost
import Derived.Sort.WalkB12
import Derived.Laws.NewBlocks
import Derived.Shelf.Spec.TrailingZeros
import Derived.Test.YtgllenfbilnneaaGreatDoorVk9
import Derived.Test.YtgllenfbilnneaaGreatDoorProg
/- What the functions do that laws.FnOwn reaches,as plain functions,and that they do it. -/
set_option linter.unusedVariables false
set_option linter.unusedSimpArgs false
namespace Go.VE.VFnOwn
open Go.Proofs Go.VE
abbrev UL:Type:=(Unit×(Unit×(Int×Unit)))
abbrev YK:Type:=(Int×(Unit×(Unit×Unit)))
abbrev Ta2:Type:=((Int×(Bool×Unit))×Unit)
abbrev Ta3:Type:=(Unit×(Int×(Unit×Unit)))
abbrev Ta4:Type:=(Int×((L (L Int))×Unit))
abbrev Ms:Type:=(L (Int×((L Int)×Unit)))
abbrev H6:Type:=((L Int)×((L Int)×Unit))
abbrev Ta7:Type:=(Bool×(Bool×(Int×Unit)))
abbrev Ta8:Type:=(Int×(Bool×(Bool×Unit)))
abbrev Ty9:Ty:=(.pair (.int .i64) .unit)
abbrev MK:Type:=(Bool×(Bool×(Bool×Unit)))
abbrev BU:Type:=(Unit×(Unit×(Unit×Unit)))
abbrev A8:Type:=(L (L (Int×(Bool×Unit))))
abbrev aax:Ty:=(.pair (.int .u32) .unit)
abbrev Xh:Type:=(Unit×(Unit×(Bool×Unit)))
abbrev ZH:Type:=((L ((L Int)×Unit))×Unit)
abbrev jE:Type:=((L Int)×(Int×(Int×Unit)))
abbrev eO:Type:=(L (Int×(Int×(Int×Unit))))
abbrev Ey:Type:=((Int×((L Int)×Unit))×Unit)
abbrev gH:Type:=(Int×(Int×(Int×(Int×Unit))))
abbrev ahG:Type:=((L (L Int))×((L Int)×Unit))
abbrev Je:Type:=((L Int)×((L (L Int))×Unit))
abbrev A9:Type:=(L H6)
abbrev ahH:Type:=(Int×(Int×(Unit×(Int×Unit))))
abbrev aay:Type:=(Int×(Int×(Int×(Unit×Unit))))
abbrev wT:Type:=(Int×(Int×(Int×(Bool×Unit))))
abbrev ahI:Type:=(Unit×(Int×(Int×(Int×Unit))))
abbrev ahJ:Type:=(Int×(Unit×(Int×(Int×Unit))))
abbrev I7:Type:=((Int×(Int×(Int×Unit)))×Unit)
abbrev Gb:Type:=((Int×Unit)×(Int×(Int×Unit)))
abbrev aaz:Type:=(Unit×(Unit×(Int×(Int×Unit))))
abbrev PY:Type:=(Int×UL)
abbrev PZ:Type:=(Unit×(Int×(Unit×(Int×Unit))))
abbrev ahK:Type:=(Int×Ta7)
abbrev ahL:Type:=(Int×Ta8)
abbrev Sw:Type:=((L (L Int))×(Int×(Int×Unit)))
abbrev eu:Ty:=(.pair (.sl (.int .u32)) .unit)
abbrev Tc:Type:=((L (L Int))×(Unit×(Int×Unit)))
abbrev vD:Type:=(Unit×UL)
abbrev ahM:Ty:=(.pair (.sl (.int .i64)) .unit)
abbrev Wz:Type:=(H6×Unit)
abbrev ahN:Type:=(Unit×Ta4)
abbrev ZF:Type:=(Ms×Unit)
abbrev yG:Type:=(L gH)
abbrev ML:Type:=(Unit×BU)
abbrev Pp:Type:=(A8×Unit)
abbrev nL:Type:=(jE×Unit)
abbrev Xi:Ty:=(.pair .bool (.pair .bool .unit))
abbrev EG:Type:=(eO×Unit)
abbrev sD:Type:=(Int×gH)
abbrev kQ:Type:=((L Int)×Ta4)
abbrev ahO:Type:=((L (Int×(Bool×Unit)))×(Int×Unit))
abbrev Xj:Type:=(nL)
abbrev Xk:Type:=(gH×Unit)
abbrev Wx:Type:=(A9×Unit)
abbrev TI:Type:=(Int×ahI)
abbrev ahP:Type:=(Int×aaz)
abbrev ahQ:Type:=(Unit×ahH)
abbrev ahR:Type:=(Int×PY)
abbrev ahS:Ty:=(.pair (.sl (.sl (.int .u8))) .unit)
abbrev ahT:Type:=(Int×ahK)
abbrev ahU:Type:=(Int×ahL)
abbrev ahV:Type:=(Unit×ahJ)
abbrev Tn:Type:=(Unit×PY)
abbrev Bb:Ty:=(.sl eu)
abbrev ahW:Type:=(Unit×PZ)
abbrev ahX:Type:=(Unit×aaz)
abbrev ahY:Type:=(Int×ML)
abbrev ahZ:Type:=(Int×Pp)
abbrev jc:Ty:=(.pair (.int .i64) (.pair .bool .unit))
abbrev WA:Type:=(Unit×ML)
abbrev ah0:Type:=(Bool×ML)
abbrev ah1:Ty:=(.pair .bool aax)
abbrev ah2:Type:=(eO×(Int×Unit))
abbrev ah3:Type:=(Int×sD)
abbrev ah4:Type:=((L (Int×(Bool×Unit)))×(Int×(Int×Unit)))
abbrev ah5:Type:=(Int×ahO)
abbrev ah6:Type:=(sD×Unit)
abbrev Ew:Type:=(kQ×Unit)
abbrev Xl:Type:=(Int×ahT)
abbrev ah7:Type:=(wT×(Int×Unit))
abbrev ah8:Type:=(Unit×Wx)
abbrev TJ:Type:=(jE×((L Int)×Unit))
abbrev P5:Type:=(Unit×ahP)
abbrev ah9:Type:=((L Int)×nL)
abbrev aia:Type:=(Unit×ahR)
abbrev aib:Type:=(Unit×ahV)
abbrev aic:Type:=(Int×ahY)
abbrev aie:Type:=(Int×ahZ)
abbrev Xm:Type:=(Unit×ahW)
abbrev aif:Type:=(A8×(Int×(Int×Unit)))
abbrev aii:Type:=(Unit×ahX)
abbrev ED:Ty:=(.pair (.int .i64) Ty9)
abbrev bS:Ty:=(.sl jc)
abbrev aij:Type:=(Int×ah0)
abbrev I6:Type:=(eO×(Int×(Int×Unit)))
abbrev aik:Ty:=(.pair (.int .i64) aax)
abbrev ail:Type:=((L (L Int))×ZF)
abbrev Jj:Type:=((Int×Unit)×nL)
abbrev jN:Type:=(Int×ah3)
abbrev aaA:Type:=(Unit×WA)
abbrev Ke:Type:=(Int×ah4)
abbrev Pj:Type:=(ah2×Unit)
abbrev KV:Type:=((Bool×Unit)×nL)
abbrev aaB:Type:=(A9×(Int×(Int×Unit)))
abbrev aaC:Type:=(Unit×ah5)
abbrev Pn:Type:=((Unit×(Int×Unit))×Ey)
abbrev Gj:Type:=(Ew×Unit)
abbrev aaD:Type:=(Int×Xl)
abbrev aaE:Type:=(sD×(Bool×Unit))
abbrev O0:Type:=(Unit×Ew)
abbrev aaF:Type:=(I7×(Int×(Int×Unit)))
abbrev aaG:Type:=(ahN×((L Int)×Unit))
abbrev KE:Type:=(ah7×Unit)
abbrev aaH:Type:=(Unit×ah8)
abbrev aaI:Type:=(Int×aic)
abbrev KW:Type:=(((L Int)×Unit)×nL)
abbrev aaJ:Type:=(Int×aie)
abbrev aaK:Type:=(Unit×aib)
abbrev bN:Ty:=(.pair (.int .i64) eu)
abbrev Gc:Ty:=(.sl bS)
abbrev qA:Ty:=(.pair (.int .i64) ahM)
abbrev aaL:Type:=(Unit×Xm)
abbrev J8:Type:=(Int×I6)
abbrev P6:Type:=(yG×(Int×(Int×Unit)))
abbrev OU:Type:=(Unit×aif)
abbrev aaM:Type:=(Unit×aii)
abbrev aaN:Type:=((Int×(Int×Unit))×EG)
abbrev aaO:Type:=(Unit×aij)
abbrev KM:Type:=(I6×Unit)
abbrev Kc:Type:=(Unit×I6)
abbrev aaP:Type:=(Ms×ZH)
abbrev vL:Type:=(jN×Unit)
abbrev aaQ:Type:=(Unit×aaA)
abbrev aaR:Ty:=(.pair .bool ah1)
abbrev aaS:Ty:=(.pair (.int .i64) Xi)
abbrev Pf:Type:=((Unit×(Int×Unit))×EG)
abbrev aaT:Type:=(Unit×aaB)
abbrev aaU:Type:=(Ta3×Je)
abbrev iU:Type:=(Bool×aaD)
abbrev Dn:Type:=(aaE×Unit)
abbrev aaV:Type:=((L Int)×ail)
abbrev aaW:Type:=(Int×aaI)
abbrev aaX:Ty:=(.pair (.int .u32) ahS)
abbrev KD:Type:=((L ((L Int)×Unit))×Wx)
abbrev aaY:Type:=(A8×Je)
abbrev aaZ:Type:=((L (Int×(Bool×Unit)))×Pp)
abbrev aa0:Type:=(Unit×aaH)
abbrev bQ:Ty:=(.pair (.sl (.int .u32)) eu)
abbrev P7:Type:=((Unit×Unit)×ah9)
abbrev aa1:Type:=(aaJ×Unit)
abbrev nT:Type:=((Int×(Int×(Int×Unit)))×Pp)
abbrev vo:Ty:=(.sl bN)
abbrev aa2:Type:=(Int×aaN)
abbrev aa3:Type:=(Int×aaO)
abbrev aa4:Type:=(Unit×P6)
abbrev Ko:Type:=(Unit×aaM)
abbrev aa5:Ty:=(.pair (.int .i64) jc)
abbrev aa6:Type:=(Unit×aaQ)
abbrev aa7:Type:=((L Int)×aaK)
abbrev aa8:Type:=(Int×aaT)
abbrev aa9:Type:=(jN×(Bool×Unit))
abbrev abb:Type:=(Int×aaW)
abbrev GY:Type:=(iU×Unit)
abbrev mM:Ty:=(.sl bQ)
abbrev abd:Type:=(Unit×KD)
abbrev abe:Type:=(Bool×aa0)
abbrev abf:Type:=(aay×Pp)
abbrev qz:Type:=(nT×Unit)
abbrev bI:Ty:=(.pair (.int .i64) ED)
abbrev abg:Ty:=(.pair Gc .unit)
abbrev abh:Type:=(Unit×aa3)
abbrev abj:Ty:=(.pair (.int .i64) aik)
abbrev abk:Type:=(Unit×aa4)
abbrev abl:Type:=((L (L Int))×aaP)
abbrev abm:Type:=(Unit×aa6)
abbrev abn:Type:=(Unit×aa7)
abbrev abo:Type:=(yG×EG)
abbrev abp:Type:=(Int×abb)
abbrev abq:Type:=(Int×abe)
abbrev dw:Ty:=(.pair (.sl (.int .u8)) ED)
abbrev Bo:Type:=(ByteArray×aa2)
abbrev abr:Type:=((L (L Int))×aaY)
abbrev abt:Type:=(Unit×abd)
abbrev bZ:Ty:=(.sl bI)
abbrev abu:Type:=(Int×abh)
abbrev abv:Type:=(Int×abk)
abbrev abw:Ty:=(.pair (.int .u32) aaR)
abbrev Gq:Type:=(kQ×ahU)
abbrev abx:Ty:=(.pair (.int .i64) aaS)
abbrev aby:Type:=(Unit×abm)
abbrev sO:Type:=(L Bo)
abbrev abz:Type:=(Int×abp)
abbrev abA:Type:=((Int×(Bool×Unit))×aaZ)
abbrev Ki:Type:=(BU×aaG)
abbrev abB:Type:=(Unit×abq)
abbrev abC:Type:=((L Int)×abl)
abbrev P8:Type:=(ah6×nL)
abbrev abD:Type:=(Int×abu)
abbrev abE:Ty:=(.pair mM .unit)
abbrev abF:Type:=(eO×aaF)
abbrev KJ:Type:=(Bo×Unit)
abbrev abG:Type:=(Bool×abt)
abbrev abH:Type:=((L Int)×abo)
abbrev KX:Type:=((Unit×(Int×(Int×Unit)))×vL)
abbrev uZ:Ty:=(.pair (.int .i64) aa5)
abbrev abI:Type:=(Int×abz)
abbrev xO:Type:=((L Int)×abr)
abbrev UU:Type:=(Gq×Unit)
abbrev P9:Type:=(KX)
abbrev abJ:Type:=(Unit×aby)
abbrev Qa:Type:=(ahQ×TJ)
abbrev gV:Ty:=(.pair (.sl (.int .u32)) aaX)
abbrev abK:Type:=(Int×abB)
abbrev abL:Type:=(BU×aaU)
abbrev UW:Type:=(Ms×KD)
abbrev abM:Type:=(Int×abD)
abbrev abN:Type:=(Int×abG)
abbrev abO:Type:=(A8×aaV)
abbrev Ka:Type:=(abF×Unit)
abbrev Pm:Type:=((Unit×(Int×Unit))×qz)
abbrev eP:Ty:=(.pair (.int .i64) bI)
abbrev UY:Ty:=(.pair bZ .unit)
abbrev abP:Ty:=(.pair (.int .i64) abj)
abbrev abQ:Type:=(Int×abI)
abbrev xP:Type:=(UU×Unit)
abbrev abR:Type:=(Unit×abJ)
abbrev abS:Type:=(Unit×abK)
abbrev abT:Type:=(Unit×UW)
abbrev abU:Type:=(Bool×abM)
abbrev abV:Type:=(Unit×abN)
abbrev vk:Ty:=(.sl eP)
abbrev abW:Type:=(Int×abQ)
abbrev Dk:Type:=(ML×aa1)
abbrev abX:Ty:=(.pair (.int .u32) abw)
abbrev abY:Ty:=(.pair (.int .i64) abx)
abbrev Qb:Type:=(sO×(Int×(Int×Unit)))
abbrev Kq:Type:=((Int×Unit)×UU)
abbrev abZ:Type:=(Unit×abR)
abbrev ab0:Type:=(Int×abS)
abbrev ab1:Type:=(Int×abU)
abbrev ab2:Type:=(Int×abV)
abbrev ab3:Type:=(Bool×abT)
abbrev UZ:Type:=((L (L Int))×UW)
abbrev ab4:Type:=((L (L Int))×abO)
abbrev ab5:Type:=(Int×abW)
abbrev OV:Type:=(ML×abf)
abbrev ab6:Type:=(Int×ab0)
abbrev ab7:Type:=(Unit×abZ)
abbrev ab8:Type:=(Int×ab1)
abbrev ab9:Type:=(Int×ab3)
abbrev acd:Type:=(Unit×ab2)
abbrev ace:Type:=(Int×ab5)
abbrev OT:Type:=((Unit×(Unit×Unit))×abL)
abbrev acf:Type:=(Bool×UZ)
abbrev acg:Type:=(A8×abC)
abbrev qB:Ty:=(.pair (.int .i64) eP)
abbrev ach:Ty:=(.pair (.int .u32) abP)
abbrev aci:Type:=(eO×KJ)
abbrev acj:Type:=((L Int)×UZ)
abbrev acn:Type:=((L Int)×ab4)
abbrev aco:Type:=(Int×ab6)
abbrev acp:Type:=(Int×ab8)
abbrev acr:Type:=(aay×abA)
abbrev acs:Type:=(Unit×ab7)
abbrev acu:Type:=(Int×acd)
abbrev acv:Type:=(Int×ace)
abbrev acw:Type:=(Unit×ab9)
abbrev U0:Type:=(Int×acf)
abbrev acy:Ty:=(.pair (.int .u32) abX)
abbrev acz:Type:=(Int×acp)
abbrev Pk:Type:=(aaC×qz)
abbrev acA:Type:=(Bool×aco)
abbrev acB:Type:=(Int×acu)
abbrev acC:Type:=(Unit×acs)
abbrev acD:Type:=(Int×acv)
abbrev acE:Type:=(Int×acw)
abbrev OP:Type:=(OU×qz)
abbrev acF:Type:=((L (L Int))×acg)
abbrev acG:Type:=((L Int)×U0)
abbrev acH:Type:=(Int×acA)
abbrev acI:Type:=(Bool×acz)
abbrev acJ:Type:=(Int×acB)
abbrev acK:Type:=(Int×acD)
abbrev acL:Type:=(Unit×acC)
abbrev acM:Type:=(Unit×acE)
abbrev acN:Ty:=(.pair Bb abE)
abbrev acO:Ty:=(.pair (.int .i64) qB)
abbrev acP:Ty:=(.pair (.int .i64) ach)
abbrev Po:Type:=(Int×acG)
abbrev acQ:Type:=(Int×acH)
abbrev acR:Type:=(Bool×acI)
abbrev acS:Type:=(Bool×acJ)
abbrev acT:Type:=((L Int)×acF)
abbrev acU:Type:=(Int×acM)
abbrev acV:Type:=(Unit×acL)
abbrev acW:Type:=(Int×acQ)
abbrev acX:Type:=((Int×((L Int)×Unit))×U0)
abbrev acY:Ty:=(.pair (.int .u32) acy)
abbrev acZ:Type:=(Int×acR)
abbrev ac0:Type:=(Int×acS)
abbrev ac1:Type:=(Int×acU)
abbrev ac2:Type:=(A8×acj)
abbrev GZ:Type:=(Unit×acV)
abbrev ac3:Type:=(Int×acW)
abbrev ac4:Ty:=(.pair ED UY)
abbrev iE:Ty:=(.pair bI abg)
abbrev ac5:Type:=(Int×acZ)
abbrev ac6:Type:=(Int×ac0)
abbrev ac7:Type:=(Int×ac1)
abbrev ac8:Type:=(ML×acr)
abbrev ac9:Type:=(Unit×GZ)
abbrev iX:Ty:=(.pair (.int .i64) acO)
abbrev Gv:Ty:=(.pair (.int .i64) acP)
abbrev ada:Type:=(Bool×ac3)
abbrev adb:Type:=(Int×ac5)
abbrev ade:Type:=(Int×ac6)
abbrev iF:Ty:=(.pair .bool acY)
abbrev adf:Type:=(Bool×ac7)
abbrev adg:Type:=((L (L Int))×ac2)
abbrev adh:Type:=(Unit×ac9)
abbrev adi:Type:=(Int×adb)
abbrev adj:Type:=(Int×ade)
abbrev adk:Type:=(Bool×ada)
abbrev adl:Type:=(Int×adf)
abbrev U1:Type:=(sO×abH)
abbrev adn:Type:=(Unit×adh)
abbrev ado:Type:=(Int×adk)
abbrev adp:Ty:=(.pair (.int .i64) ac4)
abbrev adq:Type:=(Bool×adi)
abbrev Qc:Type:=((L Int)×adg)
abbrev adr:Type:=(Bool×adj)
abbrev ads:Type:=(Int×adl)
abbrev adt:Type:=(Int×U1)
abbrev adu:Type:=(Int×ado)
abbrev adv:Type:=(Unit×adn)
abbrev adw:Type:=(Int×ads)
abbrev adx:Type:=(Unit×adq)
abbrev ady:Type:=(Bool×adr)
abbrev adz:Type:=(Int×adt)
abbrev adA:Type:=(Int×adu)
abbrev iW:Ty:=(.pair .str adp)
abbrev adB:Type:=(Unit×adv)
abbrev adC:Type:=(Int×adw)
abbrev adD:Type:=(Int×adx)
abbrev adE:Type:=(Int×ady)
abbrev Qd:Type:=(Int×adz)
abbrev adF:Type:=(Int×adA)
abbrev xR:Ty:=(.sl iW)
abbrev adG:Type:=(Int×adE)
abbrev adH:Type:=(Unit×adB)
abbrev adI:Type:=(Bool×adC)
abbrev KP:Type:=(Unit×adD)
abbrev adJ:Type:=(Bool×adF)
abbrev Kt:Ty:=(.pair gV abY)
abbrev adK:Type:=(Int×adG)
abbrev adL:Ty:=(.pair vk UY)
abbrev adM:Type:=(Unit×adH)
abbrev adN:Type:=(Bool×adI)
abbrev adO:Ty:=(.pair vo acN)
abbrev adP:Type:=(Int×adK)
abbrev adQ:Type:=(Unit×adJ)
abbrev adR:Type:=(Int×adN)
abbrev lS:Type:=(Unit×adM)
abbrev adS:Type:=(nT×acX)
abbrev adT:Type:=(Int×adQ)
abbrev adU:Type:=(Bool×adP)
abbrev adV:Type:=(Int×adR)
abbrev Qe:Type:=(nT×ac8)
abbrev adW:Type:=(Unit×adT)
abbrev adX:Type:=(Int×adV)
abbrev adY:Type:=(Unit×adU)
abbrev adZ:Type:=(Int×adX)
abbrev ad3:Type:=(Int×adY)
abbrev ad4:Ty:=(.pair (.sl (.int .i64)) adL)
abbrev ad5:Type:=(Bool×adZ)
abbrev ad6:Type:=(Unit×ad3)
abbrev ad7:Ty:=(.pair (.sl (.sl (.int .u8))) adO)
abbrev ad8:Type:=(jN×Qd)
abbrev ad9:Type:=(Unit×ad5)
abbrev aea:Type:=(wT×adS)
abbrev aeb:Type:=(Int×ad8)
abbrev aec:Type:=(Int×ad9)
abbrev aed:Ty:=(.pair .bool ad7)
abbrev xM:Type:=(Unit×aec)
abbrev aee:Type:=((Int×(Int×(Int×Unit)))×aeb)
abbrev aef:Ty:=(.pair (.int .i64) aed)
abbrev bH:Type:=(Int×aee)
abbrev qy:Type:=(bH×Unit)
abbrev aeg:Type:=(bH×((L Int)×Unit))
abbrev aeh:Type:=(acK×U1)
abbrev aei:Type:=(bH×((L (L Int))×Unit))
abbrev J9:Type:=((Unit×Unit)×qy)
abbrev aej:Type:=(iU×aea)
abbrev Gy:Type:=((Unit×(Int×Unit))×qy)
abbrev Pb:Type:=(Gy)
abbrev aek:Type:=(bH×ahG)
abbrev KL:Type:=((Unit×(Int×(Int×Unit)))×qy)
abbrev Qf:Type:=(jE×aeg)
abbrev ael:Type:=(jE×aei)
abbrev aem:Ty:=(.pair qA aef)
abbrev Qg:Type:=(jE×aek)
abbrev bU:Type:=(kQ×aej)
abbrev G5:Type:=(bU×Unit)
abbrev aen:Type:=(ad6×acn)
abbrev OQ:Type:=(aa8×qy)
abbrev aeo:Type:=(bU×(Int×Unit))
abbrev OX:Type:=(G5×Unit)
abbrev O5:Type:=(Unit×G5)
abbrev aep:Type:=(adW×acT)
abbrev aer:Type:=(Int×aeo)
abbrev Dq:Type:=((Int×Unit)×G5)
abbrev xQ:Type:=(KP×Qc)
abbrev O4:Type:=(Unit×xQ)
abbrev Qh:Type:=(Tn×ael)
abbrev Qi:Type:=(aia×Qf)
abbrev Qj:Type:=(bH×aci)
abbrev aes:Type:=(bU×vL)
abbrev Gw:Type:=(vL×G5)
abbrev O6:Type:=(Unit×aes)
abbrev aeu:Type:=(bU×aa9)
abbrev KI:Type:=(aeu×Unit)
abbrev aev:Ty:=(.pair xR ad4)
abbrev aew:Ty:=(.pair (.int .i64) aev)
abbrev aex:Type:=(GZ×aeh)
abbrev aey:Ty:=(.pair (.int .i64) aew)
abbrev Dy:Type:=(jE×aex)
abbrev aez:Ty:=(.pair (.int .i64) aey)
abbrev aeA:Ty:=(.pair iE aem)
abbrev G6:Type:=(Tn×Dy)
abbrev aeB:Type:=(lS×aen)
abbrev aeC:Type:=(lS×aep)
abbrev GA:Type:=(lS×xQ)
abbrev aeD:Ty:=(.pair uZ aeA)
abbrev Qk:Type:=(bH×G5)
abbrev U2:Type:=(bH×aer)
abbrev aeE:Type:=(bH×xQ)
abbrev aeF:Ty:=(.pair iX aez)
abbrev Gg:Type:=(YK×Qk)
abbrev Gz:Type:=(PY×Qk)
abbrev aeG:Ty:=(.pair (.int .i64) aeF)
abbrev Ql:Type:=(U2×nL)
abbrev Kg:Type:=(abv×Qk)
abbrev aeH:Type:=(bU×xQ)
abbrev aeI:Ty:=(.pair bI aeG)
abbrev aeJ:Ty:=(.pair iF aeD)
abbrev bA:Ty:=(.pair (.int .i64) aeI)
abbrev cZ:Ty:=(.pair gV aeJ)
abbrev Qm:Type:=(bH×GA)
abbrev aeK:Type:=(lS×aeE)
abbrev Pq:Type:=(bU×aeB)
abbrev Pt:Type:=(bU×aeC)
abbrev Px:Type:=(bH×aeH)
abbrev aeL:Type:=(GZ×aeK)
abbrev Dz:Type:=(jE×aeL)
abbrev GD:Type:=(P5×Px)
abbrev Qn:Type:=(aaL×Dz)
abbrev KY:Type:=(abn×Dz)
def om {α β:Type} (f:α→β) (o:Option α):Option β:=match o with
 | some y=>some (f y)
 | none=>none
def ob {α β:Type} (o:Option α) (f:α→Option β):Option β:=match o with
 | some y=>f y
 | none=>none
def Γ:TypeId→Option Ty:=fun e=>bif Nat.beq e 3 then some (.int .i64) else bif Nat.beq e 5 then some (.int .u8) else bif Nat.beq e 9 then some .str else bif Nat.beq e 33 then some (.int .u32) else bif Nat.beq e 84 then some (.sl (.int .u8)) else bif Nat.beq e 92 then some bN else bif Nat.beq e 95 then some eP else bif Nat.beq e 97 then some eu else bif Nat.beq e 99 then some bQ else bif Nat.beq e 204 then some iW else bif Nat.beq e 209 then some bS else bif Nat.beq e 233 then some bI else bif Nat.beq e 278 then some bI else bif Nat.beq e 297 then some jc else none
theorem gs {e k:Nat} {a r:Option Ty} {ty:Ty} {P:Prop} (h:(bif Nat.beq e k then a else r) = some ty) (h1:Nat.beq e k = true→P) (h2:r = some ty→P):P:=by
 cases q:Nat.beq e k with
 | true=>exact h1 q
 | false=>rw [q] at h; exact h2 h
theorem aeM:sM Tryz.prog Γ:=OG [3,5,9,33,84,92,95,97,99,204,209,233,278,297] (fun e ty h=>by
 simp only [Γ] at h
 repeat (refine gs h (fun q=>by simp [Nat.eq_of_beq_eq_true q]) fun h=>?_)
 cases h) (by kernel_rfl)
theorem mo:Tryz.prog.follows .mixedOrders = true:=by kernel_rfl
/-- A function,what it is said to do,and that it does it. -/
structure E where
 k:Nat
 gs:List Nat
 c:sK
 h:Holds Tryz.prog k c
def tb:List E→tZ
 | []=>[]
 | e::r=>(e.k,e.gs,e.c)::tb r
theorem aeN:∀ l,pJ Tryz.prog (tb l)
 | []=>Ml
 | e::r=>I5 e.h (aeN r)
abbrev LA:Type:=List (Nat×Option gJ)
def la:LA→Nat→Option gJ
 | [],_=>none
 | p::r,c=>bif Nat.beq c p.1 then p.2 else la r c
def lg (fn:Func) (j:Nat):Code:=((jh (fn.body.getD .skip) 0).getD j (0,.skip)).2
def ls (fn:Func):LA→Nat→List (Nat×Code)
 | [],_=>[]
 | p::r,j=>(p.1,lg fn j)::ls fn r (j + 1)
abbrev fx (h:Shape) (e:List (XT×Shape)) (s:h.T→Option (h.T⊕Ru e)):Option gJ:=some (.fix h e s)
abbrev ur (n:Nat) (k b:List Nat):Option gJ:=some (.Nn n k b)
abbrev C (i:List In) (o:List Ty) (F:jK i→Option (dR o×lI i)):sK:={ ins:=i,out:=o,F:=F }
abbrev C1 (i:List In) (o:List Ty) (F:jK i→Option (dR o×lI i)):sK:={ ins:=i,out:=o,F:=F,fr:=1 }
abbrev C2 (i:List In) (o:List Ty) (F:jK i→Option (dR o×lI i)):sK:={ ins:=i,out:=o,F:=F,fr:=2 }
abbrev Cp (i:List In) (o:List Ty) (F:jK i→Option (dR o×lI i)):sK:={ ins:=i,out:=o,F:=F,ptr:=true }
section
variable {k:Nat} {fn:Func} {c:sK}
theorem hW {T:tZ} {A:Nat→Option gJ} {b:Code} {x:Nat} {h:Shape} {e:List (XT×Shape)} {s:h.T→Option (h.T⊕Ru e)} (H:∀ y:h.T,runK Tryz.prog Γ T A b x (zY h y) (oN (sh:=h) (es:=e)) = (s y:Option _)):∀ y d,s y = some d→runK Tryz.prog Γ T A b x (zY h y) (oN (sh:=h) (es:=e)) = some d:=fun y _ q=>(H y).trans q
theorem jO (L:List E) (A:LA) (G:jK c.ins→Option (dR c.out×lI c.ins)) (hf:Tryz.prog.funcs[k]? = some fn) (hn:∀ x,G x = c.F x) (hr:∀ x,fnK Tryz.prog Γ (tb L) (la A) fn c x = G x:=by intro x; kernel_rfl) (hl:mF Tryz.prog Γ (tb L) (la A) (ls fn A 0):=by repeat' first | exact trivial | exact hW fun x=>by kernel_rfl | apply And.intro) (he:jh (fn.body.getD .skip) 0 = ls fn A 0:=by kernel_rfl) (h1:(fn.name == "runtime.NumGoroutine") = false:=by kernel_rfl) (h2:fn.body = some (fn.body.getD .skip):=by kernel_rfl)
 (h3:Nat.ble c.ins.length fn.ntmps = true:=by kernel_rfl) (h4:jS fn.ntmps (fn.body.getD .skip) = true:=by kernel_rfl):Holds Tryz.prog k c :=
 fn_holds (code:=fn.body.getD .skip) mo aeM (aeN L) hf h1 h2 h3 h4 (by rw [he]; exact hl) (fun x _ h=>(hr x).trans ((hn x).trans h))
theorem fh (L:List E) (A:LA) (hf:Tryz.prog.funcs[k]? = some fn) (hr:∀ x,fnK Tryz.prog Γ (tb L) (la A) fn c x = c.F x:=by intro x; kernel_rfl) (hl:mF Tryz.prog Γ (tb L) (la A) (ls fn A 0):=by repeat' first | exact trivial | exact hW fun x=>by kernel_rfl | apply And.intro) (he:jh (fn.body.getD .skip) 0 = ls fn A 0:=by kernel_rfl) (h1:(fn.name == "runtime.NumGoroutine") = false:=by kernel_rfl) (h2:fn.body = some (fn.body.getD .skip):=by kernel_rfl)
 (h3:Nat.ble c.ins.length fn.ntmps = true:=by kernel_rfl) (h4:jS fn.ntmps (fn.body.getD .skip) = true:=by kernel_rfl):Holds Tryz.prog k c:=jO L A c.F hf (fun _=>rfl) hr hl he h1 h2 h3 h4
end
section
variable {P:Program}
theorem rU (w:World) (dT sT ty elem:TypeId) (b o dLen dCap:Nat) (a:Addr) (sLen sCap sz:Nat) (cs:List Value)
 (hu:P.underlying dT = some (.slice elem)) (hs:∀ w,(Go.sizeOf elem).run P w = .ok sz w) (hn:cs.length = Nat.min sLen dLen * sz)
 (hsrc:∀ (j:Nat) (v:Value),cs[j]? = some v→w.cell? (a.add j) = some v) (hc:∀ j,j < cs.length→(w.cell? ⟨b,o + j,none⟩).isSome = true) (hf:∀ j,j < cs.length→w.frozen? ⟨b,o + j,none⟩ = false) (h1:∀ v ∈ cs,v.oneCell' = true) :
 (Builtin.copy_ #[dT,sT] ty #[.slice (some ⟨b,o,none⟩) dLen dCap,.slice (some a) sLen sCap]).run P w = .ok (goInt (Nat.min sLen dLen)) (w.setCells b o cs):=by
 have hl:=run_loadCells_list (P:=P) w a cs hsrc
 have hst:=run_storeCells_cells (P:=P) b o cs 0 w (by simpa using hc) (by simpa using hf) h1
 simp [Builtin.copy_,run_underlying hu,Builtin.lenOf,Builtin.firstCells,hs,← hn,hl,hst]
theorem Jk (w:World) (t e ty:TypeId) (z:Value) (ht:P.underlying t = some (.slice e)) (hv:∀ w,(zeroValue e).run P w = .ok z w) (h1:∀ v ∈ z.cells.toList,v.oneCell' = true) (b o c:Nat)
 (hc:∀ j,j < z.cells.size→(w.cell? ⟨b,o + j,none⟩).isSome = true) (hf:∀ j,j < z.cells.size→w.frozen? ⟨b,o + j,none⟩ = false) :
 (Builtin.clear_ #[t] ty #[.slice (some ⟨b,o,none⟩) 1 c]).run P w = .ok (.tuple #[]) (w.setCells b o z.cells.toList):=by
 have hzc:(Builtin.zeroCells z.cells 1).toList = z.cells.toList:=by
  simp only [Builtin.zeroCells,Nat.one_mul]
  apply List.ext_getElem
  · simp
  · intro i h1 h2
    have h2':i < z.cells.size:=by simpa using h2
    simp [Nat.mod_eq_of_lt h2',h2']
 have hst:=run_storeCells_cells (P:=P) b o z.cells.toList 0 w (by simpa using hc) (by simpa using hf) h1
 simp only [Nat.add_zero] at hst
 simp [Builtin.clear_,run_underlying ht,hv,hzc,hst]
end
section
open Go.Proofs Go.Shelf Go.RowKit Go.Lib Go.Sort
theorem qN (b:Nat) (vs:List Value) (o:Nat) (w:World) (h:∀ j,j < vs.length→(w.cell? ⟨b,o + j,none⟩).isSome = true) (k:Nat) (hk:(w.cell? ⟨b,k,none⟩).isSome = true):((w.setCells b o vs).cell? ⟨b,k,none⟩).isSome = true:=by
 rw [bE h]
 split
 · rename_i q; rw [List.getElem?_eq_getElem (by omega)]; rfl
 · exact hk
set_option maxHeartbeats 4000000 in
set_option maxRecDepth 1000000 in
theorem Qo (b off n c i:Nat) (cs:List Value) (w:World) (hi:i < n) (hnc:n≤c) (hcl:cs.length = n * 2) (hcs:∀ (j:Nat) (v:Value),cs[j]? = some v→w.cell? ⟨b,off + j,none⟩ = some v)
 (hfz:∀ j,j < n * 2→w.frozen? ⟨b,off + j,none⟩ = false) (h1c:∀ v ∈ cs,v.oneCell' = true) :
 Calls Tryz.prog 377 #[.slice (some ⟨b,off,none⟩) n c,.int .i64 i,.int .i64 ((i + 1:Nat):Int)] w fun e w'=>e = .returned (.slice (some ⟨b,off,none⟩) (n - 1) c) ∧
  w' = (w.drew.setCells b (off + i * 2) (cs.drop ((i + 1) * 2))).setCells b (off + (n - 1) * 2) [.int .i64 0,.bool false]:=by
 have mixed:Tryz.prog.follows .mixedOrders = true:=by kernel_rfl
 have Xn:=run_underlying Tryz.underlying209
 obtain ⟨i0,hi0,hz1⟩:∃ i0,Tryz.prog.info? 297 = some i0 ∧ i0.size = 2:=⟨_,rfl,by kernel_rfl⟩
 obtain ⟨A,hA,hsrc⟩:∃ A:Addr,(if c = i + 1 then some (⟨b,off,none⟩:Addr) else some ⟨b,off + (i + 1) * 2,none⟩) = some A ∧ Hid (∀ t u,(cs.drop ((i + 1) * 2))[t]? = some u→w.drew.cell? (A.add t) = some u):=by
  by_cases h:c = i + 1
  · refine ⟨⟨b,off,none⟩,by simp [h],fun t u hu=>?_⟩
    have h0:(cs.drop ((i + 1) * 2)).length = 0:=by rw [List.length_drop]; omega
    rw [List.length_eq_zero_iff.1 h0] at hu
    simp at hu
  · refine ⟨⟨b,off + (i + 1) * 2,none⟩,by simp [h],fun t u hu=>?_⟩
    rw [List.getElem?_drop] at hu
    rw [Addr.add_lit,Nat.add_assoc]
    exact hcs _ _ hu
 have hl:(cs.drop ((i + 1) * 2)).length = (n - (i + 1)) * 2:=by rw [List.length_drop,hcl,← Nat.sub_mul]
 have s1:Hid ((cs.drop ((i + 1) * 2)).length = (n - (i + 1)) * 2):=hl
 have s2:Hid (∀ u ∈ cs.drop ((i + 1) * 2),u.oneCell' = true):=fun u hu=>h1c u (List.mem_of_mem_drop hu)
 have hat:∀ t,t < n * 2→(w.cell? ⟨b,off + t,none⟩).isSome = true:=fun t ht=>by rw [hcs t _ (List.getElem?_eq_getElem (by omega))]; rfl
 have s3:Hid (∀ t,t < (cs.drop ((i + 1) * 2)).length→(w.drew.cell? ⟨b,off + i * 2 + t,none⟩).isSome = true ∧ w.drew.frozen? ⟨b,off + i * 2 + t,none⟩ = false):=fun t ht=>by
  rw [hl] at ht
  rw [Nat.add_assoc]
  exact ⟨hat _ (by omega),hfz _ (by omega)⟩
 obtain ⟨W1,hW1⟩:∃ W1,W1 = w.drew.setCells b (off + i * 2) (cs.drop ((i + 1) * 2)):=⟨_,rfl⟩
 have hm:i + (n - (i + 1)) = n - 1:=by omega
 have hm1:n - (i + (n - (i + 1))) = 1:=by omega
 have hm2:i + (n - (i + 1))≤c:=by omega
 have hm3:i + (n - (i + 1))≤n:=by omega
 have hm4:¬ (c = i + (n - (i + 1))):=by omega
 have hcl:∀ ty,(Builtin.clear_ #[209] ty #[.slice (some ⟨b,off + (n - 1) * 2,none⟩) (n - (n - 1)) (c - (n - 1))]).run Tryz.prog W1 = .ok (.tuple #[]) (W1.setCells b (off + (n - 1) * 2) [.int .i64 0,.bool false]):=fun ty=>by
  rw [show n - (n - 1) = 1 by omega]
  exact Jk W1 209 297 ty _ Tryz.underlying209 Tryz.zeroValue297 (by simp [Value.cells,Value.oneCell']) b (off + (n - 1) * 2) _ (fun j hj=>by
   rw [hW1,Nat.add_assoc]
   exact qN b _ _ _ (fun t ht=>(s3 t ht).1) _ (hat _ (by simp [Value.cells] at hj; omega))) (fun j hj=>by
   rw [hW1,World.frozen?_setCells,Nat.add_assoc]
   exact hfz _ (by simp [Value.cells] at hj; omega))
 have hW:Hid (W1 = w.drew.setCells b (off + i * 2) (cs.drop ((i + 1) * 2))):=hW1
 have hq1:(0:Int)≤(i:Int) + 1:=by omega
 have hq2:(i:Int) + 1≤(n:Int):=by omega
 have hic:i≤c:=by omega
 have hjc:i + 1≤c:=by omega
 rw [← hW1]
 clear hW1 hl hcs hfz h1c hat
 go_enter Tryz.func377,Tryz.ntmps377
 go_wp2_with fail
 go_region_law_o (refine step_append_room rfl (.tmp 22) (.tmp 25) 209 rfl 297 i0 2 Tryz.underlying209 hi0 hz1 b off i c (by simp [Act.eval,Act.put]) A (n - (i + 1)) (c - (i + 1)) (cs.drop ((i + 1) * 2)) (by simp [Act.eval,Act.put]) s1.out hsrc.out s2.out (by omega) s3.out ?_; rw [← hW.out,hm])
 go_wp2
 go_ret
 exact ⟨rfl,rfl⟩
end
section
open Go.Proofs Go.Shelf Go.RowKit Go.Lib Go.Sort
theorem G7 {w:World} {b o:Nat} (h:(w.cell? ⟨b,o,none⟩).isSome = true):∃ t k,w.shape? b = some (t,k) ∧ k ≠ 0:=by
 unfold World.cell? at h
 unfold World.shape?
 cases hb:w.heap[b]? with
 | none=>simp [hb] at h
 | some ob =>
   cases ob with
   | cells c t z =>
     refine ⟨t,c.size,by simp,?_⟩
     simp [hb] at h
     omega
   | _=>simp [hb] at h
/-- slices.overlaps,the other row in memory of which nothing is frozen. -/
theorem Ce {P:Program} (w:World) (tS tR e:TypeId) (ht:P.underlying tS = some (.slice e)) (size:Nat) (hz:∀ w,(Go.sizeOf e).run P w = .ok size w) (a b:Addr) (la ca lb cb:Nat) (ka kb:Nat)
 (hsa:(w.cell? ⟨a.block,ka,none⟩).isSome = true) (hsb:(w.cell? ⟨b.block,kb,none⟩).isSome = true) (hsp:b.spot = none) (hf:∀ o,w.frozen? ⟨b.block,o,none⟩ = false) (hne:a.block = b.block→¬ (a.off < b.off + lb * size ∧ b.off < a.off + la * size)) :
 (Extern.SlicesOverlaps.overlaps #[tS,tS] #[tR] #[.slice (some a) la ca,.slice (some b) lb cb]).run P w = .ok (.bool false) w:=by
 obtain ⟨tA,kA,hA,hA0⟩:=G7 hsa
 obtain ⟨tB,kB,hB,hB0⟩:=G7 hsb
 have hfb:w.frozen? b = false:=by rw [show b = ⟨b.block,b.off,none⟩ by cases b; simp at hsp ⊢; exact hsp]; exact hf _
 change Sem.run P (α:=Value) (do
  let some t:=(#[tS,tS]:Array TypeId)[0]? | stuck "slices.overlaps: no parameter types"
  let .slice elem ← underlying t | stuck "slices.overlaps: slice type expected"
  let size ← sizeOf elem
  match (some a:Option Addr),(some b:Option Addr) with
  | some a,some b =>
    if la = 0 ∨ lb = 0 ∨ size = 0 then pure (Value.bool false)
    else if a.block != b.block&&(← frozen a)&&(← frozen b) then unsupported .addressObserved
    else do
     if a.block != b.block then do
      noView a; noView b
      if ← mayBeOne a b then return Value.bool ((← choose (.extern "sameAddr.stringBytes" 2)) == 1)
     pure (Value.bool (a.block == b.block&&a.off < b.off + lb * size&&b.off < a.off + la * size))
  | _,_=>pure (Value.bool false)) w = _
 by_cases h0:la = 0 ∨ lb = 0 ∨ size = 0
 · simp [run_underlying ht,hz,h0]
 · by_cases hab:a.block = b.block
   · have:=hne hab
     simp only [not_and] at this
     simp [run_underlying ht,hz,h0,hab]
     intro q
     have:=this q
     omega
   · have hnb:(a.block != b.block) = true:=by simpa using hab
     have hnb':(a.block == b.block) = false:=by simpa using hab
     obtain ⟨kA,rfl⟩:=Nat.exists_eq_succ_of_ne_zero hA0
     obtain ⟨kB,rfl⟩:=Nat.exists_eq_succ_of_ne_zero hB0
     cases hfa:w.frozen? a <;> cases hfe:w.frozen? ⟨a.block,kA + 1,none⟩ <;> simp [run_underlying ht,hz,h0,hnb,hnb',frozen,noView,viewAt,mayBeOne,stringish,shape,Sem.run,hA,hB,hfa,hfb,hf,hfe]
set_option maxHeartbeats 4000000 in
set_option maxRecDepth 1000000 in
/-- slices.Insert(s,0,x): there is room. -/
theorem Qp (b off n c vb voff vc:Nat) (cs vs:List Value) (w:World) (hn:0 < n) (hroom:n + 1≤c) (pI:n + 1≤most) (hcl:cs.length = n * 2) (hvl:vs.length = 2)
 (hcs:∀ (j:Nat) (v:Value),cs[j]? = some v→w.cell? ⟨b,off + j,none⟩ = some v) (hat:∀ j,j < c * 2→(w.cell? ⟨b,off + j,none⟩).isSome = true) (hfz:∀ o,w.frozen? ⟨b,o,none⟩ = false) (h1c:∀ v ∈ cs,v.oneCell' = true)
 (hvs:∀ (j:Nat) (v:Value),vs[j]? = some v→w.cell? ⟨vb,voff + j,none⟩ = some v) (h1v:∀ v ∈ vs,v.oneCell' = true) (hap:vb = b→voff + 2≤off ∨ off + c * 2≤voff) :
 Calls Tryz.prog 376 #[.slice (some ⟨b,off,none⟩) n c,.int .i64 0,.slice (some ⟨vb,voff,none⟩) 1 vc] w fun e w'=>e = .returned (.slice (some ⟨b,off,none⟩) (n + 1) c) ∧
  w' = (w.drew.setCells b (off + 2) cs).setCells b off vs:=by
 have mixed:Tryz.prog.follows .mixedOrders = true:=by kernel_rfl
 have Xn:=run_underlying Tryz.underlying209
 unfold most at pI
 have hw1:wrap64 ((n:Int) + 1) = (n:Int) + 1:=by unfold wrap64; omega
 have hq1:¬ ((c:Int) < (n:Int) + 1):=by omega
 have hq2:(0:Int)≤(n:Int) + 1:=by omega
 have hq3:(n:Int) + 1≤(c:Int):=by omega
 have hq4:(1:Int)≤(n:Int) + 1:=by omega
 have hq5:((n:Int) + 1).toNat = n + 1:=by omega
 have hc0:¬ (c = 1):=by omega
 have ain:¬ (c = 0):=by omega
 have hn0:¬ ((0:Int) = (n:Int)):=by omega
 have hn1:((n:Int) == 0) = false:=by simp; omega
 have hn2:¬ (n = 0):=by omega
 have hw2:IntKind.i64.wrap 1 = 1:=by decide
 have hov:∀ cb,(callFunc 387 #[.slice (some ⟨vb,voff,none⟩) 1 vc,.slice (some ⟨b,off + 2,none⟩) n cb]).run Tryz.prog w = .ok (.value (.bool false)) w:=fun cb=>by
  rw [run_callFunc_extern Tryz.func387 (by kernel_rfl) (by kernel_rfl) (by kernel_rfl) (e:=Extern.SlicesOverlaps.overlaps #[209,209] #[4]) (by kernel_rfl),
   Ce w 209 4 297 Tryz.underlying209 2 Tryz.sizeOf297 ⟨vb,voff,none⟩ ⟨b,off + 2,none⟩ 1 vc n cb voff off (by have:=hvs 0 _ (List.getElem?_eq_getElem (by omega)); rw [Nat.add_zero] at this; rw [this]; rfl) (by have:=hat 0 (by omega); rwa [Nat.add_zero] at this) rfl hfz (fun q=>?_)]
  · rfl
  · have:=hap q
    simp only
    omega
 have hcp1:∀ ty dc sc,(Builtin.copy_ #[209,209] ty #[.slice (some ⟨b,off + 2,none⟩) n dc,.slice (some ⟨b,off,none⟩) (n + 1) sc]).run Tryz.prog w.drew = .ok (goInt n) (w.drew.setCells b (off + 2) cs):=fun ty dc sc=>by
  have:=rU (P:=Tryz.prog) w.drew 209 209 ty 297 b (off + 2) n dc ⟨b,off,none⟩ (n + 1) sc 2 cs Tryz.underlying209 Tryz.sizeOf297 (by rw [hcl]; simp only [Nat.min_def]; split <;> omega)
   (fun j v hj=>by rw [Addr.add_lit]; exact hcs j v hj) (fun j hj=>by rw [Nat.add_assoc]; exact hat _ (by omega)) (fun j _=>hfz _) h1c
  rw [show Nat.min (n + 1) n = n by simp only [Nat.min_def]; split <;> omega] at this
  exact this
 obtain ⟨W1,hW1⟩:∃ W1,W1 = w.drew.setCells b (off + 2) cs:=⟨_,rfl⟩
 have hcp2:∀ ty dc,(Builtin.copy_ #[209,209] ty #[.slice (some ⟨b,off,none⟩) (n + 1) dc,.slice (some ⟨vb,voff,none⟩) 1 vc]).run Tryz.prog W1 = .ok (goInt 1) (W1.setCells b off vs):=fun ty dc=>by
  have:=rU (P:=Tryz.prog) W1 209 209 ty 297 b off (n + 1) dc ⟨vb,voff,none⟩ 1 vc 2 vs Tryz.underlying209 Tryz.sizeOf297 (by rw [hvl]; simp only [Nat.min_def]; split <;> omega)
   (fun j v hj=>by
    have hj2:=(List.getElem?_eq_some_iff.mp hj).1
    rw [Addr.add_lit,hW1,World.cell?_setCells_out]
    · exact hvs j v hj
    · intro q _
      have:=hap q
      simp only
      omega) (fun j hj=>by rw [hW1]; exact qN b _ _ _ (fun t ht=>by rw [Nat.add_assoc]; exact hat _ (by omega)) _ (hat _ (by omega))) (fun j _=>by rw [hW1,World.frozen?_setCells]; exact hfz _) h1v
  rw [show Nat.min 1 (n + 1) = 1 by simp only [Nat.min_def]; split <;> omega] at this
  exact this
 rw [← hW1] at hcp1 ⊢
 clear hW1 hcs hat hfz h1c hvs h1v
 go_enter Tryz.func376,Tryz.ntmps376
 go_wp2_with (simp only [hov])
 go_region_law_o (refine step_copy_runI rfl _ _ 209 209 rfl _ _ (by simp [Act.eval,Act.put]) (by simp [Act.eval,Act.put]) (hcp1 _ _ _) ?_)
 go_wp2_with (at_builtin; refine wpList_copy_runI _ rfl _ _ 209 209 rfl _ _ rfl rfl (hcp2 _ _) ?_)
 go_ret
 exact ⟨rfl,rfl⟩
end
section
open Go.Proofs Go.Shelf Go.RowKit Go.Lib Go.Sort
set_option maxHeartbeats 4000000 in
set_option maxRecDepth 1000000 in
/-- slices.Insert(s,0,x),s empty. -/
theorem TK (base:Option Addr) (c vb voff vc:Nat) (v':Value) (w w2:World) (hrun:(Builtin.append_ #[209,209] 209 #[.slice base 0 c,.slice (some ⟨vb,voff,none⟩) 1 vc]).run Tryz.prog w = .ok v' w2) :
 Calls Tryz.prog 376 #[.slice base 0 c,.int .i64 0,.slice (some ⟨vb,voff,none⟩) 1 vc] w fun e w'=>e = .returned v' ∧ w' = w2:=by
 have mixed:Tryz.prog.follows .mixedOrders = true:=by kernel_rfl
 have Xn:=run_underlying Tryz.underlying209
 have hc:¬ ((c:Int) < 0):=by omega
 go_enter Tryz.func376,Tryz.ntmps376
 cases base with
 | none =>
   go_wp2_with (at_builtin; refine Lib.wpList_append_run _ rfl _ _ _ _ rfl _ _ rfl rfl _ _ hrun ?_)
   go_ret
   exact ⟨rfl,rfl⟩
 | some a =>
   obtain ⟨ab,ao,asp⟩:=a
   go_wp2_with (at_builtin; refine Lib.wpList_append_run _ rfl _ _ _ _ rfl _ _ rfl rfl _ _ hrun ?_)
   all_goals (go_ret; exact ⟨rfl,rfl⟩)
set_option maxHeartbeats 4000000 in
set_option maxRecDepth 1000000 in
/-- slices.Insert(s,0,x): no room. -/
theorem Qq (b off n c vb voff vc G:Nat) (ROW:Array Value) (cs vs:List Value) (w:World) (hn:0 < n) (hnc:n≤c) (hroom:c < n + 1) (pI:n + 1≤most) (hcl:cs.length = n * 2) (hvl:vs.length = 2) (hG:n + 1≤G) (hR:(n + 1) * 2≤ROW.size)
 (hcs:∀ (j:Nat) (v:Value),cs[j]? = some v→w.cell? ⟨b,off + j,none⟩ = some v) (h1c:∀ v ∈ cs,v.oneCell' = true)
 (hvs:∀ (j:Nat) (v:Value),vs[j]? = some v→w.cell? ⟨vb,voff + j,none⟩ = some v) (h1v:∀ v ∈ vs,v.oneCell' = true)
 (hrz:(Builtin.append_ #[209,3] 209 #[.slice (some ⟨b,off,none⟩) 0 c,.int .i64 ((n:Int) + 1)]).run Tryz.prog w = .ok (.slice (some ⟨w.heap.size,0,none⟩) (n + 1) G) (w.drew.alloc (.cells ROW 297))) :
 Calls Tryz.prog 376 #[.slice (some ⟨b,off,none⟩) n c,.int .i64 0,.slice (some ⟨vb,voff,none⟩) 1 vc] w fun e w'=>e = .returned (.slice (some ⟨w.heap.size,0,none⟩) (n + 1) G) ∧
  w' = ((w.alloc (.cells ROW 297)).drew.setCells w.heap.size 0 vs).drew.setCells w.heap.size 2 cs:=by
 have mixed:Tryz.prog.follows .mixedOrders = true:=by kernel_rfl
 have Xn:=run_underlying Tryz.underlying209
 have hbw:b < w.heap.size:=by
  have h0:=hcs 0 _ (List.getElem?_eq_getElem (by omega))
  exact World.block_lt_of_cell? w _ h0
 have hvw:vb < w.heap.size:=by
  have h0:=hvs 0 _ (List.getElem?_eq_getElem (by omega))
  exact World.block_lt_of_cell? w _ h0
 unfold most at pI
 have hw1:wrap64 ((n:Int) + 1) = (n:Int) + 1:=by unfold wrap64; omega
 have hw2:IntKind.i64.wrap 1 = 1:=by decide
 have hq1:(c:Int) < (n:Int) + 1:=by omega
 have hq2:(0:Int)≤(n:Int) + 1:=by omega
 have hq4:(1:Int)≤(n:Int) + 1:=by omega
 have hq5:((n:Int) + 1).toNat = n + 1:=by omega
 have ain:¬ (c = 0):=by omega
 have hG1:¬ (G = 1):=by omega
 have hG0:¬ (G = 0):=by omega
 have hn0:¬ ((0:Int) = (n:Int)):=by omega
 have hn1:((n:Int) == 0) = false:=by simp; omega
 have hn2:¬ (n = 0):=by omega
 obtain ⟨W1,hW1⟩:∃ W1,W1 = w.drew.alloc (.cells ROW 297):=⟨_,rfl⟩
 have hN:∀ j,j < (n + 1) * 2→(W1.cell? ⟨w.heap.size,j,none⟩).isSome = true:=fun j hj=>by
  rw [hW1,World.cell?_alloc_at (w:=w.drew) ROW _ w.heap.size j rfl,Array.getElem?_eq_getElem (by omega)]; rfl
 have hNf:∀ j,W1.frozen? ⟨w.heap.size,j,none⟩ = false:=fun j=>by rw [hW1]; exact World.frozen?_alloc_at (w:=w.drew) ROW _ w.heap.size j rfl
 have hOb:∀ j v,w.cell? ⟨b,j,none⟩ = some v→W1.cell? ⟨b,j,none⟩ = some v:=fun j v h=>by rw [hW1,World.cell?_alloc_past (w:=w.drew) _ b j hbw]; exact h
 have hOv:∀ j v,w.cell? ⟨vb,j,none⟩ = some v→W1.cell? ⟨vb,j,none⟩ = some v:=fun j v h=>by rw [hW1,World.cell?_alloc_past (w:=w.drew) _ vb j hvw]; exact h
 have hcpA:∀ (W:World),(∀ x,W.cell? x = W1.cell? x)→(∀ x,W.frozen? x = W1.frozen? x)→∀ ty dc,(Builtin.copy_ #[209,209] ty #[.slice (some ⟨w.heap.size,0,none⟩) (n + 1) dc,.slice (some ⟨vb,voff,none⟩) 1 vc]).run Tryz.prog W = .ok (goInt 1) (W.setCells w.heap.size 0 vs):=fun W hWc hWf ty dc=>by
  have:=rU (P:=Tryz.prog) W 209 209 ty 297 w.heap.size 0 (n + 1) dc ⟨vb,voff,none⟩ 1 vc 2 vs Tryz.underlying209 Tryz.sizeOf297 (by rw [hvl]; simp only [Nat.min_def]; split <;> omega)
   (fun j v hj=>by rw [Addr.add_lit,hWc]; exact hOv _ v (hvs j v hj)) (fun j hj=>by rw [hWc]; exact hN _ (by omega)) (fun j hj=>by rw [hWf]; exact hNf _) h1v
  rw [show Nat.min 1 (n + 1) = 1 by simp only [Nat.min_def]; split <;> omega] at this
  exact this
 have hcpB:∀ (W:World),(∀ x,W.cell? x = (W1.setCells w.heap.size 0 vs).cell? x)→(∀ x,W.frozen? x = (W1.setCells w.heap.size 0 vs).frozen? x)→∀ ty dc sc,(Builtin.copy_ #[209,209] ty #[.slice (some ⟨w.heap.size,2,none⟩) n dc,.slice (some ⟨b,off,none⟩) n sc]).run Tryz.prog W = .ok (goInt n) (W.setCells w.heap.size 2 cs):=fun W hWc hWf ty dc sc=>by
  have:=rU (P:=Tryz.prog) W 209 209 ty 297 w.heap.size 2 n dc ⟨b,off,none⟩ n sc 2 cs Tryz.underlying209 Tryz.sizeOf297 (by rw [hcl,show Nat.min n n = n by simp only [Nat.min_def]; split <;> omega])
   (fun j v hj=>by rw [Addr.add_lit,hWc,World.cell?_setCells_out _ _ _ _ _ (fun h _=>absurd h (by simp only; omega))]; exact hOb _ v (hcs j v hj)) (fun j hj=>by rw [hWc]; exact qN _ _ _ _ (fun t ht=>hN _ (by omega)) _ (hN _ (by omega))) (fun j hj=>by rw [hWf,World.frozen?_setCells]; exact hNf _) h1c
  rw [show Nat.min n n = n by simp only [Nat.min_def]; split <;> omega] at this
  exact this
 subst hW1
 have hE1:∀ x,((w.alloc (.cells ROW 297)).drew).cell? x = (w.drew.alloc (.cells ROW 297)).cell? x:=fun x=>rfl
 have hE2:∀ x,((w.alloc (.cells ROW 297)).drew).frozen? x = (w.drew.alloc (.cells ROW 297)).frozen? x:=fun x=>rfl
 have hF1:∀ x,(((w.alloc (.cells ROW 297)).drew.setCells w.heap.size 0 vs).drew).cell? x = ((w.drew.alloc (.cells ROW 297)).setCells w.heap.size 0 vs).cell? x:=fun x=>rfl
 have hF2:∀ x,(((w.alloc (.cells ROW 297)).drew.setCells w.heap.size 0 vs).drew).frozen? x = ((w.drew.alloc (.cells ROW 297)).setCells w.heap.size 0 vs).frozen? x:=fun x=>rfl
 clear hN hNf hOb hOv hR hcs h1c hvs h1v
 go_enter Tryz.func376,Tryz.ntmps376
 go_wp2_with (first
  | (at_builtin; refine Lib.wpList_append_run _ rfl _ _ _ _ rfl _ _ rfl rfl _ _ hrz ?_)
  | (at_builtin; refine wpList_copy_runI _ rfl _ _ 209 209 rfl _ _ rfl rfl (hcpA _ hE1 hE2 _ _) ?_))
 go_region_law_o (refine step_copy_runI rfl _ _ 209 209 rfl (.slice (some ⟨w.heap.size,2,none⟩) n (G - 1)) (.slice (some ⟨b,off,none⟩) n c) (by simp [Act.eval,Act.put]) (by simp [Act.eval,Act.put]) (hcpB _ hF1 hF2 3 (G - 1) c) ?_)
 go_wp2
 go_ret
 exact ⟨rfl,rfl⟩
end
section
abbrev Way:Ty:=.pair (.int .i64) (.pair .bool .unit)
/-- A row of ways,cell by cell. -/
def cellV (x:L Way.T) (k:Nat):Value:=bif Nat.beq (k % 2) 0 then .int .i64 (x.get (k / 2)).1 else .bool (x.get (k / 2)).2.1
def dG (x:L Way.T):List Value:=(List.range (x.len * 2)).map (cellV x)
theorem eB (x:L Way.T):(dG x).length = x.len * 2:=by simp [dG]
theorem gD (x:L Way.T) {k:Nat} (h:k < x.len * 2):(dG x)[k]? = some (cellV x k):=by
 simp [dG,h]
theorem lH (x:L Way.T):∀ v ∈ dG x,v.oneCell' = true:=by
 intro v hv
 obtain ⟨k,_,rfl⟩:=List.mem_map.mp hv
 unfold cellV
 cases Nat.beq (k % 2) 0 <;> rfl
theorem qO (x:L Way.T) (i:Nat):cellV x (i * 2) = .int .i64 (x.get i).1 ∧ cellV x (i * 2 + 1) = .bool (x.get i).2.1:=by
 unfold cellV
 rw [show i * 2 % 2 = 0 by omega,show i * 2 / 2 = i by omega,show (i * 2 + 1) % 2 = 1 by omega,show (i * 2 + 1) / 2 = i by omega]
 exact ⟨rfl,rfl⟩
theorem vM {x y:L Way.T} {i j:Nat} (h:x.get i = y.get j) {q:Nat} (hq:q < 2):cellV x (i * 2 + q) = cellV y (j * 2 + q):=by
 obtain ⟨a1,a2⟩:=qO x i
 obtain ⟨b1,b2⟩:=qO y j
 rcases Nat.lt_or_ge q 1 with h0 | h0
 · obtain rfl:q = 0:=by omega
   rw [Nat.add_zero,Nat.add_zero,a1,b1,h]
 · obtain rfl:q = 1:=by omega
   rw [a2,b2,h]
/-- What a row of ways is in memory. -/
theorem DC {c:Nat→Nat→Col} {w:World} {id:Nat} {x:L Way.T} {h:bT} (hr:mh true c w id Way x h):uy h x.len x.nil ∧ ∀ ad,h.1 = some ad→ad.spot = none ∧
 (∀ k,k < h.2.2 * 2→c ad.block (ad.off + k) = .bx id ∧ (∃ v,w.cell? ⟨ad.block,ad.off + k,none⟩ = some v) ∧ w.frozen? ⟨ad.block,ad.off + k,none⟩ = false) ∧
 ∀ (k:Nat) (v:Value),(dG x)[k]? = some v→w.cell? ⟨ad.block,ad.off + k,none⟩ = some v:=by
 obtain ⟨nh,R,⟨h1,h2,h3⟩,hp⟩:=hr
 refine ⟨h1,fun ad had=>⟨(h2 ad had).1,fun k hk=>?_,fun k v hv=>?_⟩⟩
 · obtain ⟨q1,q2,q3⟩:=(h2 ad had).2 k hk
   exact ⟨(hp _ _ (by rw [q1]; simp)).1,q2,q3⟩
 · have hk:k < x.len * 2:=by have:=(List.getElem?_eq_some_iff.mp hv).1; rwa [eB] at this
   rw [gD x hk] at hv
   obtain ⟨us,u1,u2,u3⟩:=h3 (k / 2) (by omega)
   obtain ⟨v1,v2,rfl,e1,v3,v4,rfl,e2,e3⟩:=u2
   simp only [bD] at e1 e2 e3
   subst e1 e2 e3
   obtain ⟨a1,a2⟩:=qO x (k / 2)
   have:=u3 ad had (k % 2) v (by
    rcases Nat.mod_two_eq_zero_or_one k with q | q <;> rw [q]
    · rw [show k = k / 2 * 2 by omega] at hv
      rw [a1] at hv
      simpa using hv
    · rw [show k = k / 2 * 2 + 1 by omega] at hv
      rw [a2] at hv
      simpa using hv)
   rw [show ad.off + k / 2 * Way.size + k % 2 = ad.off + k by show ad.off + k / 2 * 2 + k % 2 = _; omega] at this
   exact this
open Classical in
noncomputable def Qr (c:Nat→Nat→Col) (h:bT):Nat→Nat→Col:=fun b o=>if fF h 2 b o then .bx bY else c b o
/-- A row of ways laid anew goes out. -/
theorem tY {ins:List In} {F:jK ins→Option (dR [.sl Way]×lI ins)} {n0:Nat→Nat→Nat→bT} {col:Nat→Nat→Col} {w w':World} {args:Array Value} {id:Nat} (gG:uM { ins:=ins,out:=[.sl Way],F:=F,fr:=1 } col w) (hid:given id) {h h':bT} (hown:∀ b o,fF h 2 b o→col b o = .bx id) {y:L Way.T} {z:lI ins}
 (e1:uy h' y.len y.nil)
 (e5:∀ ad,h'.1 = some ad→ad.spot = none ∧ (∀ k,k < y.len * 2→w'.cell? ⟨ad.block,ad.off + k,none⟩ = some (cellV y k)) ∧ ∀ k,k < h'.2.2 * 2→(∃ v,w'.cell? ⟨ad.block,ad.off + k,none⟩ = some v) ∧ w'.frozen? ⟨ad.block,ad.off + k,none⟩ = false)
 (e6:∀ b o,fF h' 2 b o→w.heap.size≤b ∨ fF h 2 b o) (e7:∀ b o v,w.cell? ⟨b,o,none⟩ = some v→¬ fF h 2 b o→w'.cell? ⟨b,o,none⟩ = some v)
 (e8:(∀ b o,b < w.heap.size→w'.frozen? ⟨b,o,none⟩ = w.frozen? ⟨b,o,none⟩) ∧ ∀ b o,w.heap.size≤b→w'.frozen? ⟨b,o,none⟩ = false)
 (e9:∀ b ob,w.heap[b]? = some ob→(∀ o,¬ fF h 2 b o)→w'.heap[b]? = some ob) (e10:∀ b o,b < w.heap.size→(w'.cell? ⟨b,o,none⟩).isSome = (w.cell? ⟨b,o,none⟩).isSome)
 (e11:w'.os = w.os ∧ w'.tape = w.tape ∧ w'.output = w.output ∧ w.heap.size≤w'.heap.size) (G8:nA n0 (Qr col h') w' ins z 0 args.toList) :
 Behind { ins:=ins,out:=[.sl Way],F:=F,fr:=1 } n0 col w args ((y,()),z) (.returned (gP h')) w':=by
 have aio:∀ {b},(∀ o id,col b o ≠ .bx id)→∀ o,¬ fF h 2 b o:=fun hc o q=>hc o _ (hown _ _ q)
 refine ⟨gP h',Qr col h',rfl,⟨e11.1,e11.2.1,e11.2.2.1,e11.2.2.2,fun b hb hc=>?_,fun b hb o hc=>?_,fun b hb o=>e8.1 b o hb,fun b hb o=>e10 b o hb,fun b hb o=>e8.2 b o hb,fun b o id q=>(gG.1 b o id q).2,gG.2⟩,fun b hb o=>?_,?_,G8⟩
 · rw [Array.getElem?_eq_getElem hb]
   exact e9 b _ (Array.getElem?_eq_getElem hb) (aio hc)
 · cases hw:w.cell? ⟨b,o,none⟩ with
   | none=>have:=e10 b o hb; rw [hw] at this; simpa using this
   | some v=>exact e7 b o v hw fun q=>hc _ (hown _ _ q)
 · unfold Qr
   by_cases hq:fF h' 2 b o
   · rw [if_pos hq]
     have hc:=hown b o ((e6 b o hq).resolve_left (by omega))
     refine ⟨⟨fun q=>(by cases q),fun q=>(by rw [hc] at q; cases q)⟩,fun m hm=>?_⟩
     cases hm
     exact ⟨fun q=>absurd q.1 (Nat.lt_irrefl _),fun _=>⟨id,hid,hc⟩⟩
   · rw [if_neg hq]
     refine ⟨Iff.rfl,fun m hm=>⟨fun _=>hm,fun q=>?_⟩⟩
     obtain ⟨⟨⟨h1,h2⟩,_⟩,_⟩:=gG.1 b o m hm
     by_cases hg:given m
     · exact ⟨m,hg,hm⟩
     · exact absurd ⟨h2,Eo h1 hg⟩ q
 · unfold uL
   rw [if_neg (by simp)]
   refine ⟨[gP h'],⟨gP h',[],rfl,⟨[gP h'],?_,rfl⟩,rfl⟩,rfl⟩
   show jJ (fun j u y h=>mh true (Qr col h') w' (bY + j) u y h) (.sl Way) y [gP h'] 0
   refine ⟨h',rfl,fun _ _=>(none,0,0),open Classical in fun b o=>if fF h' 2 b o then some none else none,⟨e1,fun ad had=>⟨(e5 ad had).1,fun k hk=>?_⟩,fun i hi=>?_⟩,fun b o hR=>?_⟩
   · exact ⟨if_pos ⟨ad,had,rfl,by omega,by show ad.off + k < ad.off + h'.2.2 * 2; have:k < h'.2.2 * 2:=hk; omega⟩,(e5 ad had).2.2 k hk⟩
   · obtain ⟨a1,a2⟩:=qO y i
     refine ⟨[.int .i64 (y.get i).1,.bool (y.get i).2.1],rfl,⟨[.int .i64 (y.get i).1],[.bool (y.get i).2.1],rfl,rfl,[.bool (y.get i).2.1],[],rfl,rfl,rfl⟩,fun ad had q v hv=>?_⟩
     have hq:q < 2:=(List.getElem?_eq_some_iff.mp hv).1
     have:=(e5 ad had).2.1 (i * 2 + q) (by omega)
     rw [show ad.off + i * Way.size + q = ad.off + (i * 2 + q) by show ad.off + i * 2 + q = _; omega,this]
     rcases Nat.lt_or_ge q 1 with h0 | h0
     · obtain rfl:q = 0:=by omega
       rw [Nat.add_zero,a1]; simpa using hv
     · obtain rfl:q = 1:=by omega
       rw [a2]; simpa using hv
   · by_cases q:fF h' 2 b o
     · refine ⟨if_pos q,?_⟩
       obtain ⟨ad,had,rfl,q2,q3⟩:=q
       have:=(e5 ad had).2.2 (o - ad.off) (by omega)
       rw [show ad.off + (o - ad.off) = o by omega] at this
       exact this
     · exact absurd (if_neg q) hR
end
section
open Go.Proofs
/-- Nothing turned but cells of one row. -/
structure iw (b lo hi:Nat) (w w':World):Prop where
 cell:∀ b' o,¬ (b' = b ∧ lo≤o ∧ o < hi)→w'.cell? ⟨b',o,none⟩ = w.cell? ⟨b',o,none⟩
 some:∀ b' o,(w'.cell? ⟨b',o,none⟩).isSome = (w.cell? ⟨b',o,none⟩).isSome
 uD:∀ b' o,w'.frozen? ⟨b',o,none⟩ = w.frozen? ⟨b',o,none⟩
 blk:∀ b',b' ≠ b→w'.heap[b']? = w.heap[b']?
 os:w'.os = w.os ∧ w'.tape = w.tape ∧ w'.output = w.output ∧ w'.heap.size = w.heap.size
theorem iw.drew {b lo hi:Nat} {w:World}:iw b lo hi w w.drew:=⟨fun _ _ _=>rfl,fun _ _=>rfl,fun _ _=>rfl,fun _ _=>rfl,rfl,rfl,rfl,rfl⟩
theorem iw.trans {b lo hi:Nat} {w w1 w2:World} (h:iw b lo hi w w1) (k:iw b lo hi w1 w2):iw b lo hi w w2 :=
 ⟨fun b' o q=>(k.cell b' o q).trans (h.cell b' o q),fun b' o=>(k.some b' o).trans (h.some b' o),fun b' o=>(k.uD b' o).trans (h.uD b' o),fun b' q=>(k.blk b' q).trans (h.blk b' q),k.os.1.trans h.os.1,k.os.2.1.trans h.os.2.1,k.os.2.2.1.trans h.os.2.2.1,k.os.2.2.2.trans h.os.2.2.2⟩
theorem iw.set {b lo hi:Nat} {w:World} {o:Nat} {vs:List Value} (h1:lo≤o) (h2:o + vs.length≤hi) (hc:∀ k,lo≤k→k < hi→(w.cell? ⟨b,k,none⟩).isSome = true):iw b lo hi w (w.setCells b o vs):=by
 have hcs:=bE (w:=w) (b:=b) (o:=o) (vs:=vs) fun j hj=>hc _ (by omega) (by omega)
 refine ⟨fun b' o' q=>?_,fun b' o'=>?_,fun b' o'=>World.frozen?_setCells _ _ _ _ _,fun b' q=>jZ _ _ q _ _ _,mH _ _ _ _,kg _ _ _ _,iJ _ _ _ _,size_setCells _ _ _ _⟩
 · rw [hcs,if_neg]
   rintro ⟨q1,q2,q3⟩
   exact q ⟨q1,by omega,by omega⟩
 · rw [hcs]
   split
   · rename_i q
     obtain ⟨rfl,q1,q2⟩:=q
     rw [hc o' (by omega) (by omega),List.getElem?_eq_getElem (by omega)]; rfl
   · rfl
theorem EN:given (pN 0 + 1 + 0):=by unfold given; decide
def sH (x:L Way.T) (i:Nat):L Way.T:=(x.cut 0 i).app (x.cut (i + 1) x.len)
def vN (x v:L Way.T):L Way.T:=v.app x
theorem Bw {x:L Way.T} {i:Nat} (h:i < x.len):(sH x i).len = x.len - 1:=by show i - 0 + (x.len - (i + 1)) = _; omega
theorem KZ {x:L Way.T} {i k:Nat} (h:k < i):(sH x i).get k = x.get k:=by
 show (bif Nat.blt k (i - 0) then x.get (0 + k) else _) = _
 rw [show Nat.blt k (i - 0) = true by simpa using h,Nat.zero_add]; rfl
theorem K3 {x:L Way.T} {i k:Nat} (h:i≤k):(sH x i).get k = x.get (k + 1):=by
 show (bif Nat.blt k (i - 0) then _ else x.get (i + 1 + (k - (i - 0)))) = _
 rw [show Nat.blt k (i - 0) = false by cases hq:Nat.blt k (i - 0) with | false=>rfl | true=>simp at hq; omega]
 show x.get _ = _
 congr 1; omega
theorem vO (x v:L Way.T) (h:v.len = 1):(vN x v).len = x.len + 1:=by show v.len + x.len = _; omega
theorem Jl {x v:L Way.T} (h:v.len = 1):(vN x v).get 0 = v.get 0:=by
 show (bif Nat.blt 0 v.len then _ else _) = _
 rw [h]; rfl
theorem EO {x v:L Way.T} (h:v.len = 1) (k:Nat):(vN x v).get (k + 1) = x.get k:=by
 show (bif Nat.blt (k + 1) v.len then _ else x.get (k + 1 - v.len)) = _
 rw [h,show Nat.blt (k + 1) 1 = false by cases hq:Nat.blt (k + 1) 1 with | false=>rfl | true=>simp at hq]
 rfl
noncomputable def Z0 (x:L Way.T) (i j:Int):Option ((L Way.T×Unit)×Unit):=if 0≤i ∧ i.toNat < x.len ∧ j = i + 1 then some ((sH x i.toNat,()),()) else none
noncomputable def WM (x:L Way.T) (i:Int) (v:L Way.T):Option ((L Way.T×Unit)×Unit):=if i = 0 ∧ v.len = 1 ∧ x.len + 1≤most then some ((vN x v,()),()) else none
noncomputable def cDe:sK:={ ins:=[.mv (.sl Way),.v (.int .i64),.v (.int .i64)],out:=[.sl Way],F:=fun x=>Z0 x.1 x.2.1 x.2.2.1,fr:=1 }
noncomputable def YL:sK:={ ins:=[.mv (.sl Way),.v (.int .i64),.v (.sl Way)],out:=[.sl Way],F:=fun x=>WM x.1 x.2.1 x.2.2.1,fr:=1 }
/-- The row's own memory. -/
theorem G9 {c:Nat→Nat→Col} {w:World} {id b off n cap:Nat} (h:∀ k,k < cap * 2→c b (off + k) = .bx id ∧ (∃ v,w.cell? ⟨b,off + k,none⟩ = some v) ∧ w.frozen? ⟨b,off + k,none⟩ = false):∀ b' o,fF (some ⟨b,off,none⟩,n,cap) 2 b' o→c b' o = .bx id:=by
 rintro b' o ⟨ad,had,rfl,q1,q2⟩
 cases had
 have:=(h (o - off) (by show _ < cap * 2; simp only at q1 q2; omega)).1
 simp only at q1
 rw [show off + (o - off) = o by omega] at this
 exact this
theorem Bz {b off n n' cap b' o:Nat}:fF (some ⟨b,off,none⟩,n,cap) 2 b' o ↔ b' = b ∧ off≤o ∧ o < off + cap * 2:=by
 refine ⟨?_,fun ⟨q1,q2,q3⟩=>⟨_,rfl,q1,q2,q3⟩⟩
 rintro ⟨ad,had,q⟩
 cases had
 exact q
/-- In place. -/
theorem vP {ins:List In} {F:jK ins→Option (dR [.sl Way]×lI ins)} {n0:Nat→Nat→Nat→bT} {col:Nat→Nat→Col} {w w':World} {args:Array Value} {id:Nat} (gG:uM { ins:=ins,out:=[.sl Way],F:=F,fr:=1 } col w) (hid:given id) {b off n n' cap:Nat}
 (hown:∀ k,k < cap * 2→col b (off + k) = .bx id ∧ (∃ v,w.cell? ⟨b,off + k,none⟩ = some v) ∧ w.frozen? ⟨b,off + k,none⟩ = false) (hpos:0 < cap) {y:L Way.T} {z:lI ins} (e1:n' = y.len) (e2:n'≤cap) (e3:y.nil = false) (e4:∀ k,k < y.len * 2→w'.cell? ⟨b,off + k,none⟩ = some (cellV y k)) (hr:iw b off (off + cap * 2) w w')
 (G8:nA n0 (Qr col (some ⟨b,off,none⟩,n',cap)) w' ins z 0 args.toList):Behind { ins:=ins,out:=[.sl Way],F:=F,fr:=1 } n0 col w args ((y,()),z) (.returned (.slice (some ⟨b,off,none⟩) n' cap)) w':=by
 refine tY gG hid (h:=(some ⟨b,off,none⟩,n,cap)) (h':=(some ⟨b,off,none⟩,n',cap)) (G9 hown) ⟨e1,by show y.len≤cap; omega,fun q=>(by cases q),by rw [e3]; simp⟩ (fun ad had=>?_) (fun b' o q=>.inr (by rw [Bz (n':=n')] at q ⊢; exact q)) (fun b' o v hv q=>?_) ⟨fun b' o _=>hr.uD b' o,fun b' o hb=>(hr.uD b' o).trans (dH hb o)⟩
  (fun b' ob lK q=>?_) (fun b' o _=>hr.some b' o) ⟨hr.os.1,hr.os.2.1,hr.os.2.2.1,by rw [hr.os.2.2.2]; exact Nat.le_refl _⟩ G8
 · cases had
   refine ⟨rfl,e4,fun k hk=>⟨?_,(hr.uD _ _).trans (hown k hk).2.2⟩⟩
   have:=hr.some b (off + k)
   obtain ⟨v,hv⟩:=(hown k hk).2.1
   rw [hv] at this
   exact Option.isSome_iff_exists.mp this
 · rw [hr.cell b' o (fun q'=>q (Bz (n':=n).mpr q')),hv]
 · rw [hr.blk b' (fun e=>q off (Bz (n':=n).mpr ⟨e,Nat.le_refl _,by omega⟩)),lK]
theorem TL {n0:Nat→Nat→Nat→bT} {col:Nat→Nat→Col} {w:World} {args:Array Value} (gG:uM cDe col w) {x:L Way.T} {i:Nat} (hi:i < x.len) {h:bT} (hrow:mh true col w (pN 0 + 1 + 0) Way x h) (e0:args.toList = [gP h,.int .i64 i,.int .i64 ((i + 1:Nat):Int)]) :
 Calls Tryz.prog 377 args w (Behind cDe n0 col w args ((sH x i,()),())):=by
 obtain ⟨⟨k1,k2,k3,k4⟩,k5⟩:=DC hrow
 obtain ⟨base,n,c⟩:=h
 simp only at k1 k2 k3 k4 k5
 subst k1
 cases base with
 | none=>have:=k3 rfl; omega
 | some ad =>
 obtain ⟨b,off,sp⟩:=ad
 obtain ⟨rfl,k6,k7⟩:=k5 _ rfl
 simp only at k6 k7
 have ea:args = #[.slice (some ⟨b,off,none⟩) x.len c,.int .i64 i,.int .i64 ((i + 1:Nat):Int)]:=by
  apply Array.ext'
  simpa [mkV,gP] using e0
 have hat:∀ k,off≤k→k < off + c * 2→(w.cell? ⟨b,k,none⟩).isSome = true:=fun k q1 q2=>by
  obtain ⟨v,hv⟩:=(k6 (k - off) (by omega)).2.1
  rw [show off + (k - off) = k by omega] at hv
  rw [hv]; rfl
 have hld:((dG x).drop ((i + 1) * 2)).length = (x.len - (i + 1)) * 2:=by rw [List.length_drop,eB,← Nat.sub_mul]
 have D9:iw b off (off + c * 2) w (w.drew.setCells b (off + i * 2) ((dG x).drop ((i + 1) * 2))):=iw.drew.trans (iw.set (by omega) (by rw [hld]; omega) hat)
 have Qs:∀ k,off≤k→k < off + c * 2→((w.drew.setCells b (off + i * 2) ((dG x).drop ((i + 1) * 2))).cell? ⟨b,k,none⟩).isSome = true:=fun k q1 q2=>(D9.some b k).trans (hat k q1 q2)
 have hR2:=D9.trans (iw.set (o:=off + (x.len - 1) * 2) (vs:=[.int .i64 0,.bool false]) (by omega) (by simp; omega) Qs)
 have hw:=Qo b off x.len c i (dG x) w hi k2 (eB x) k7 (fun j hj=>(k6 j (by omega)).2.2) (lH x)
 rw [ea]
 refine hw.mono fun e w' hb=>?_
 obtain ⟨rfl,rfl⟩:=hb
 refine vP (n:=x.len) gG EN k6 (by omega) ((Bw hi).symm) (by omega) ?_ (fun k hk=>?_) hR2 ?_
 · show (x.nil&&_) = false
   cases hx:x.nil with
   | false=>rfl
   | true=>cases k4.mp hx
 · have hk:k < (sH x i).len * 2:=hk
   show _ = some (cellV (sH x i) k)
   rw [Bw hi] at hk
   have q1:=bE (w:=w.drew.setCells b (off + i * 2) ((dG x).drop ((i + 1) * 2))) (b:=b) (o:=off + (x.len - 1) * 2) (vs:=[.int .i64 0,.bool false]) (fun j hj=>Qs _ (by omega) (by simp at hj; omega)) b (off + k)
   have q2:=bE (w:=w.drew) (b:=b) (o:=off + i * 2) (vs:=(dG x).drop ((i + 1) * 2)) (fun j hj=>hat _ (by omega) (by rw [hld] at hj; omega)) b (off + k)
   rw [q1,if_neg (by simp; omega),q2,hld]
   by_cases hq:i * 2≤k
   · rw [if_pos ⟨rfl,by omega,by omega⟩,List.getElem?_drop,gD x (by omega)]
     have:=vM (x:=sH x i) (y:=x) (i:=k / 2) (j:=k / 2 + 1) (K3 (by omega)) (q:=k % 2) (by omega)
     rw [show k / 2 * 2 + k % 2 = k by omega] at this
     rw [this]
     congr 2; omega
   · rw [if_neg (by omega)]
     show w.cell? _ = _
     rw [k7 k _ (gD x (by omega))]
     have:=vM (x:=sH x i) (y:=x) (i:=k / 2) (j:=k / 2) (KZ (by omega)) (q:=k % 2) (by omega)
     rw [show k / 2 * 2 + k % 2 = k by omega] at this
     rw [this]
 · exact ⟨_,_,rfl,trivial,_,_,rfl,trivial,_,_,rfl,trivial,trivial⟩
theorem oDe:Holds Tryz.prog 377 cDe:=by
 refine ⟨⟨Tryz.f377,Tryz.func377,by kernel_rfl,by kernel_rfl⟩,fun x y hxy=>⟨⟨rfl,by show 3 < 1000; decide⟩,fun n0 col w args gG hargs=>?_⟩⟩
 obtain ⟨x,i,j,⟨⟩⟩:=x
 simp only [cDe,Z0] at hxy
 split at hxy
 · rename_i hh
   obtain ⟨h0,hi,rfl⟩:=hh
   cases hxy
   obtain ⟨i,rfl⟩:∃ m:Nat,i = m:=⟨i.toNat,(Int.toNat_of_nonneg h0).symm⟩
   obtain ⟨u0,r0,e0,⟨Uw,rfl,h,rfl,hrow⟩,u1,r1,rfl,⟨E9,rfl,rfl⟩,u2,r2,rfl,⟨us2,rfl,rfl⟩,rfl⟩:=hargs
   exact TL gG hi hrow e0
 · cases hxy
end
section
open Go.Proofs Go.RowKit
set_option maxRecDepth 1000000 in
theorem TM:∃ (i0:TypeInfo) (z:Value),Tryz.prog.info? 297 = some i0 ∧ i0.zero = some z ∧ i0.size = 2 ∧ i0.bytes = 16 ∧ z.cells = #[.int .i64 0,.bool false]:=⟨_,_,rfl,rfl,by kernel_rfl,by kernel_rfl,by kernel_rfl⟩
theorem TN {n0:Nat→Nat→Nat→bT} {col:Nat→Nat→Col} {w:World} {args:Array Value} (gG:uM YL col w) {x v:L Way.T} (hv1:v.len = 1) (pI:x.len + 1≤most) {h:bT} (hrow:mh true col w (pN 0 + 1 + 0) Way x h) {vv:Value} (hrep:bC col w (.sl Way) v [vv]) (e0:args.toList = [gP h,.int .i64 0,vv]) :
 Calls Tryz.prog 376 args w (Behind YL n0 col w args ((vN x v,()),())):=by
 obtain ⟨⟨k1,k2,k3,k4⟩,k5⟩:=DC hrow
 obtain ⟨base,n,c⟩:=h
 simp only at k1 k2 k3 k4 k5
 subst k1
 obtain ⟨va,vc,ev,v2,⟨v3,v4⟩,v5⟩:=hrep
 simp only [List.cons.injEq,and_true] at ev
 subst ev
 cases va with
 | none=>have:=v3 rfl; omega
 | some va =>
 obtain ⟨v6,v7⟩:=v5 _ rfl
 obtain ⟨vb,voff,vs⟩:=va
 obtain rfl:vs = none:=v6 (by omega)
 obtain ⟨us,u1,u2⟩:=v7 0 (by omega)
 have hvn:v.nil = false:=by
  cases hq:v.nil with
  | false=>rfl
  | true=>cases v4.mp hq
 have uf:us = dG v:=by
  obtain ⟨w1,w2,rfl,e1,w3,w4,rfl,e2,e3⟩:=u1
  simp only [bC] at e1 e2 e3
  subst e1 e2 e3
  obtain ⟨a1,a2⟩:=qO v 0
  unfold dG
  rw [hv1]
  simp only [Nat.zero_mul,Nat.zero_add] at a1 a2
  show _ = [cellV v 0,cellV v 1]
  rw [a1,a2]; rfl
 subst uf
 have hvl:(dG v).length = 2:=by rw [eB,hv1]
 have hvc:∀ (j:Nat) (u:Value),(dG v)[j]? = some u→col vb (voff + j) = .st ∧ w.cell? ⟨vb,voff + j,none⟩ = some u:=fun j u hj=>by
  have:=u2 j u hj
  simpa using this
 have ea:args = #[.slice base x.len c,.int .i64 0,.slice (some ⟨vb,voff,none⟩) 1 vc]:=by
  apply Array.ext'
  rw [e0,hv1]; rfl
 rw [ea]
 have G8:∀ aip wX,nA n0 aip wX YL.ins () 0 [.slice base x.len c,.int .i64 0,.slice (some ⟨vb,voff,none⟩) 1 vc]:=fun _ _=>⟨_,_,rfl,trivial,_,_,rfl,trivial,_,_,rfl,trivial,trivial⟩
 obtain ⟨i0,z,hi0,hz0,hsz,hby,hzc⟩:=TM
 have hyn:(vN x v).nil = false:=by show (v.nil&&_) = false; rw [hvn]; rfl
 have hyl:=vO x v hv1
 have hy0:∀ k,k < 2→cellV (vN x v) k = cellV v k:=fun k hk=>by
  have:=vM (x:=vN x v) (y:=v) (i:=0) (j:=0) (Jl hv1) hk
  simpa using this
 have hys:∀ k,cellV (vN x v) (k + 2) = cellV x k:=fun k=>by
  have:=vM (x:=vN x v) (y:=x) (i:=k / 2 + 1) (j:=k / 2) (EO hv1 _) (q:=k % 2) (by omega)
  rw [show (k / 2 + 1) * 2 + k % 2 = k + 2 by omega,show k / 2 * 2 + k % 2 = k by omega] at this
  exact this
 by_cases hx0:x.len = 0
 · -- at the end
   obtain ⟨h',w',hrun,r1,r2,r3,r4,r5,r6,r7,r8,r9,r10,r11⟩:=JI (P:=Tryz.prog) (w:=w) (t:=209) (u:=209) (D7:=209) (e:=297) (i:=i0) (z:=z) (ty:=Way) Tryz.underlying209 Tryz.underlying209 hi0 hz0 hsz (by rw [hzc]; rfl) (by omega) (h1:=(base,0,c)) (olds:=[]) (by simp) (Nat.zero_le _) k3
    (fun ad had=>⟨(k5 ad had).1,fun j v hj=>by simp at hj,fun k hk=>((k5 ad had).2.1 k hk).2⟩) (a2:=some ⟨vb,voff,none⟩) (n:=1) (c:=vc) (news:=dG v) hvl (lH v) (fun ad had=>by cases had; exact ⟨fun _=>rfl,fun j u hj=>(hvc j u hj).2⟩) (fun q=>by cases q) (by show 0 + 1≤2 ^ 32; decide)
   rw [hx0]
   rw [hx0] at G8
   refine (TK base c vb voff vc (gP h') w w' hrun).mono fun e w2 hb=>?_
   obtain ⟨rfl,rfl⟩:=hb
   refine tY gG EN (h:=(base,0,c)) (fun b o q=>?_) ⟨by rw [r1,hyl,hx0],by rw [hyl,hx0]; omega,r3,?_⟩ (fun ad had=>⟨(r5 ad had).1,fun k hk=>?_,(r5 ad had).2.2⟩) r6 r7 r8 r9 r10 r11 (G8 _ _)
   · obtain ⟨ad,had,rfl,q1,q2⟩:=q
     have:=((k5 ad had).2.1 (o - ad.off) (by simp only at q2; omega)).1
     rw [show ad.off + (o - ad.off) = o by omega] at this
     exact this
   · rw [hyn,r4]; simp
   · have hk2:k < 2:=by rw [hyl,hx0] at hk; omega
     rw [hy0 k hk2]
     exact (r5 ad had).2.1 k _ (by rw [List.nil_append]; exact gD v (by omega))
 · cases base with
   | none=>have:=k3 rfl; omega
   | some ad =>
   obtain ⟨b,off,sp⟩:=ad
   obtain ⟨rfl,k6,k7⟩:=k5 _ rfl
   simp only at k6 k7
   have hat:∀ k,off≤k→k < off + c * 2→(w.cell? ⟨b,k,none⟩).isSome = true:=fun k q1 q2=>by
    obtain ⟨v,hv⟩:=(k6 (k - off) (by omega)).2.1
    rw [show off + (k - off) = k by omega] at hv
    rw [hv]; rfl
   have hb0:col b off = .bx (pN 0 + 1 + 0):=by have:=(k6 0 (by omega)).1; simpa using this
   by_cases hroom:x.len + 1≤c
   · have hap:vb = b→voff + 2≤off ∨ off + c * 2≤voff:=fun e=>by
      subst e
      have c0:=(hvc 0 _ (gD v (by omega))).1
      have c1:=(hvc 1 _ (gD v (by omega))).1
      rw [Nat.add_zero] at c0
      rcases Nat.lt_or_ge voff off with q | q
      · rcases Nat.lt_or_ge (voff + 1) off with q2 | q2
        · omega
        · rw [show voff + 1 = off by omega,hb0] at c1; cases c1
      · rcases Nat.lt_or_ge voff (off + c * 2) with q2 | q2
        · have:=(k6 (voff - off) (by omega)).1
          rw [show off + (voff - off) = voff by omega,c0] at this; cases this
        · omega
     have D9:iw b off (off + c * 2) w (w.drew.setCells b (off + 2) (dG x)):=iw.drew.trans (iw.set (by omega) (by rw [eB]; omega) hat)
     have Qs:∀ k,off≤k→k < off + c * 2→((w.drew.setCells b (off + 2) (dG x)).cell? ⟨b,k,none⟩).isSome = true:=fun k q1 q2=>(D9.some b k).trans (hat k q1 q2)
     have hR2:=D9.trans (iw.set (o:=off) (vs:=dG v) (by omega) (by rw [hvl]; omega) Qs)
     refine (Qp b off x.len c vb voff vc (dG x) (dG v) w (by omega) hroom pI (eB x) hvl k7 (fun j hj=>hat _ (by omega) (by omega)) ((gG.1 b off _ hb0).2) (lH x) (fun j u hj=>(hvc j u hj).2) (lH v) hap).mono fun e w' hb=>?_
     obtain ⟨rfl,rfl⟩:=hb
     refine vP (n:=x.len) gG EN k6 (by omega) hyl.symm hroom hyn (fun k hk=>?_) hR2 (G8 _ _)
     rw [hyl] at hk
     have q1:=bE (w:=w.drew.setCells b (off + 2) (dG x)) (b:=b) (o:=off) (vs:=dG v) (fun j hj=>Qs _ (by omega) (by omega)) b (off + k)
     have q2:=bE (w:=w.drew) (b:=b) (o:=off + 2) (vs:=dG x) (fun j hj=>hat _ (by omega) (by rw [eB] at hj; omega)) b (off + k)
     rw [q1]
     by_cases hk2:k < 2
     · rw [if_pos ⟨rfl,by omega,by omega⟩,show off + k - off = k by omega,gD v (by omega),hy0 k hk2]
     · rw [if_neg (by omega),q2,if_pos ⟨rfl,by omega,by rw [eB]; omega⟩,show off + k - (off + 2) = k - 2 by omega,gD x (by omega)]
       have:=hys (k - 2)
       rw [show k - 2 + 2 = k by omega] at this
       rw [this]
   · have hrz:=Lib.run_append_grow_zeros (P:=Tryz.prog) w 209 3 209 297 i0 z .i64 .i64 Tryz.underlying209 Tryz.underlying3 hi0 hz0 (some ⟨b,off,none⟩) 0 c [] (by rw [hsz]; exact run_firstCells_some (P:=Tryz.prog) w.drew 2 0 ⟨b,off,none⟩ 0 c [] (by simp) (fun j v hj=>by simp at hj)) (x.len + 1) (by omega) (by omega) (by omega) (by unfold most at pI; omega) (by rw [hby]; unfold most at pI; omega)
      (growslice_fits (by omega) (by rw [hby]; unfold most at pI; omega))
     have hcapge:x.len + 1≤grownCap w (0 + (x.len + 1)) c 297:=by have:=grownCap_ge w (0 + (x.len + 1)) c 297; omega
     generalize grownCap w (0 + (x.len + 1)) c 297 = G at hrz hcapge
     have hl1:=kr z.cells (x.len + 1)
     have hl2:=kr z.cells (G - (0 + (x.len + 1)))
     have hzs:z.cells.size = 2:=by rw [hzc]; rfl
     rw [hzs] at hl1 hl2
     have hRs:(([]:List Value).toArray ++ Builtin.zeroCells z.cells (x.len + 1) ++ Builtin.zeroCells z.cells (G - (0 + (x.len + 1)))).size = G * 2:=by
      rw [← Array.length_toList,Array.toList_append,Array.toList_append,List.length_append,List.length_append,hl1,hl2]; simp; omega
     generalize ([]:List Value).toArray ++ Builtin.zeroCells z.cells (x.len + 1) ++ Builtin.zeroCells z.cells (G - (0 + (x.len + 1))) = ROW at hrz hRs
     rw [Nat.zero_add] at hrz
     refine (Qq b off x.len c vb voff vc G ROW (dG x) (dG v) w (by omega) k2 (by omega) pI (eB x) hvl hcapge (by omega) k7 (lH x) (fun j u hj=>(hvc j u hj).2) (lH v) (by simpa using hrz)).mono fun e w' hb=>?_
     obtain ⟨rfl,rfl⟩:=hb
     have hnew:∀ k,0≤k→k < 0 + G * 2→((w.alloc (.cells ROW 297)).drew.cell? ⟨w.heap.size,k,none⟩).isSome = true:=fun k _ hk=>by
      show ((w.alloc (.cells ROW 297)).cell? ⟨w.heap.size,k,none⟩).isSome = true
      rw [World.cell?_alloc_new,Array.getElem?_eq_getElem (by omega)]; rfl
     have D9:iw w.heap.size 0 (0 + G * 2) (w.alloc (.cells ROW 297)) ((w.alloc (.cells ROW 297)).drew.setCells w.heap.size 0 (dG v)):=iw.drew.trans (iw.set (by omega) (by rw [hvl]; omega) hnew)
     have hnew1:∀ k,0≤k→k < 0 + G * 2→(((w.alloc (.cells ROW 297)).drew.setCells w.heap.size 0 (dG v)).drew.cell? ⟨w.heap.size,k,none⟩).isSome = true:=fun k q1 q2=>(D9.some _ k).trans (hnew k q1 q2)
     have hR2:=(D9.trans iw.drew).trans (iw.set (o:=2) (vs:=dG x) (by omega) (by rw [eB]; omega) hnew1)
     have hblt:∀ b' o v,w.cell? ⟨b',o,none⟩ = some v→b' < w.heap.size:=fun b' o v hv=>World.block_lt_of_cell? w ⟨b',o,none⟩ hv
     have hca:∀ b' o,b' < w.heap.size→(w.alloc (.cells ROW 297)).cell? ⟨b',o,none⟩ = w.cell? ⟨b',o,none⟩:=fun b' o hb'=>World.cell?_alloc_lt w _ ⟨b',o,none⟩ hb'
     have hcell:∀ b' o,b' < w.heap.size→(((w.alloc (.cells ROW 297)).drew.setCells w.heap.size 0 (dG v)).drew.setCells w.heap.size 2 (dG x)).cell? ⟨b',o,none⟩ = w.cell? ⟨b',o,none⟩:=fun b' o hb'=>(hR2.cell b' o (fun q=>by omega)).trans (hca b' o hb')
     refine tY gG EN (h:=(some ⟨b,off,none⟩,x.len,c)) (h':=(some ⟨w.heap.size,0,none⟩,x.len + 1,G)) (G9 k6) ⟨hyl.symm,by rw [hyl]; exact hcapge,fun q=>(by cases q),by rw [hyn]; simp⟩ (fun ad had=>?_) (fun b' o q=>.inl ?_) (fun b' o v hv _=>?_) ⟨fun b' o hb'=>?_,fun b' o hb'=>?_⟩ (fun b' ob lK _=>?_) (fun b' o hb'=>by rw [hcell b' o hb']) ⟨hR2.os.1,hR2.os.2.1,hR2.os.2.2.1,?_⟩ (G8 _ _)
     · cases had
       refine ⟨rfl,fun k hk=>?_,fun k hk=>⟨?_,?_⟩⟩
       · rw [hyl] at hk
         have q2:=bE (w:=(w.alloc (.cells ROW 297)).drew) (b:=w.heap.size) (o:=0) (vs:=dG v) (fun j hj=>hnew _ (by omega) (by omega)) w.heap.size (0 + k)
         have q1:=bE (w:=((w.alloc (.cells ROW 297)).drew.setCells w.heap.size 0 (dG v)).drew) (b:=w.heap.size) (o:=2) (vs:=dG x) (fun j hj=>hnew1 _ (by omega) (by rw [eB] at hj; omega)) w.heap.size (0 + k)
         simp only
         rw [q1]
         by_cases hk2:k < 2
         · rw [if_neg (by omega)]
           show ((w.alloc (.cells ROW 297)).drew.setCells w.heap.size 0 (dG v)).cell? _ = _
           rw [q2,if_pos ⟨rfl,by omega,by omega⟩,show 0 + k - 0 = k by omega,gD v (by omega),hy0 k hk2]
         · rw [if_pos ⟨rfl,by omega,by rw [eB]; omega⟩,show 0 + k - 2 = k - 2 by omega,gD x (by omega)]
           have:=hys (k - 2)
           rw [show k - 2 + 2 = k by omega] at this
           rw [this]
       · have:=(hR2.some w.heap.size (0 + k)).trans (hnew (0 + k) (by omega) (by simp only at hk; omega))
         exact Option.isSome_iff_exists.mp this
       · exact (hR2.uD _ _).trans (World.frozen?_alloc_new ..)
     · obtain ⟨ad,had,rfl,_⟩:=q
       cases had
       exact Nat.le_refl _
     · rw [hcell b' o (hblt b' o v hv),hv]
     · rw [hR2.uD,World.frozen?_alloc_past _ _ _ hb']
     · rw [hR2.uD]; exact Ae hb' o
     · rw [hR2.blk b' (Nat.ne_of_lt (ji lK)),Below.heap_alloc w _ b' (ji lK),lK]
     · rw [hR2.os.2.2.2]; simp
theorem oIn:Holds Tryz.prog 376 YL:=by
 refine ⟨⟨Tryz.f376,Tryz.func376,by kernel_rfl,by kernel_rfl⟩,fun x y hxy=>⟨⟨rfl,by show 3 < 1000; decide⟩,fun n0 col w args gG hargs=>?_⟩⟩
 obtain ⟨x,i,v,⟨⟩⟩:=x
 simp only [YL,WM] at hxy
 split at hxy
 · rename_i hh
   obtain ⟨rfl,hv,hm⟩:=hh
   cases hxy
   obtain ⟨u0,r0,e0,⟨Uw,rfl,h,rfl,hrow⟩,u1,r1,rfl,⟨E9,rfl,rfl⟩,u2,r2,rfl,⟨us2,hrep,rfl⟩,rfl⟩:=hargs
   obtain ⟨va,vc,ev,_⟩:=id hrep
   subst ev
   exact TN gG hv hm hrow hrep e0
 · cases hxy
end
section
open Go.Proofs
def aeO:Go.Shelf.Ren:=⟨fun _=>276,fun x=>match x with | 25=>269 | 27=>33 | 53=>382 | n=>n,fun n=>n⟩
theorem Xo:Lays7.n28 Tryz.prog aeO:={
 mixed:=by kernel_rfl,f28:=Tryz.func276.trans (congrArg some (by kernel_rfl)),
 t0:=Tryz.underlying0,a0:=Tryz.isAgg0,z0:=Tryz.sizeOf0,v0:=Tryz.zeroValue0,i0:=by kernel_rfl,
 t3:=Tryz.underlying3,a3:=Tryz.isAgg3,z3:=Tryz.sizeOf3,v3:=Tryz.zeroValue3,i3:=by kernel_rfl,
 t4:=Tryz.underlying4,a4:=Tryz.isAgg4,z4:=Tryz.sizeOf4,v4:=Tryz.zeroValue4,i4:=by kernel_rfl,
 t5:=Tryz.underlying5,a5:=Tryz.isAgg5,z5:=Tryz.sizeOf5,v5:=Tryz.zeroValue5,i5:=by kernel_rfl,
 t25:=Tryz.underlying269,a25:=Tryz.isAgg269,z25:=Tryz.sizeOf269,v25:=Tryz.zeroValue269,i25:=by kernel_rfl,
 t27:=Tryz.underlying33,a27:=Tryz.isAgg33,z27:=Tryz.sizeOf33,v27:=Tryz.zeroValue33,i27:=by kernel_rfl,
 t53:=Tryz.underlying382,a53:=Tryz.isAgg382,z53:=Tryz.sizeOf382,v53:=Tryz.zeroValue382,i53:=by kernel_rfl,
 g0:=by kernel_rfl }
noncomputable def YJ (x:Int):Option ((Int×Unit)×Unit):=if 0≤x ∧ x < 4294967296 then some (((Lib.ctz 32 x.toNat:Nat),()),()) else none
noncomputable def cTz:sK:={ ins:=[.v (.int .u32)],out:=[.int .i64],F:=fun x=>YJ x.1 }
theorem oTz:Holds Tryz.prog 276 cTz:=by
 refine ⟨⟨Tryz.f276,Tryz.func276,by kernel_rfl,by kernel_rfl⟩,fun x y hxy=>⟨⟨rfl,by show 1 < 1000; decide⟩,fun n0 col w args gG hargs=>?_⟩⟩
 obtain ⟨x,⟨⟩⟩:=x
 simp only [cTz,YJ] at hxy
 split at hxy
 · rename_i hh
   obtain ⟨h0,h1⟩:=hh
   cases hxy
   obtain ⟨x,rfl⟩:∃ m:Nat,x = m:=⟨x.toNat,(Int.toNat_of_nonneg h0).symm⟩
   obtain ⟨u0,r0,e0,⟨Uw,rfl,rfl⟩,rfl⟩:=hargs
   have ea:args = #[.int .u32 x]:=by
    apply Array.ext'
    simpa [mkV] using e0
   subst ea
   refine (Any7.bits_TrailingZeros32 Xo x (Int.ofNat_lt.mp h1) w (fun _ j hj=>gG.2.1 j hj)).mono fun e w' hb=>?_
   obtain ⟨rfl,rfl⟩:=hb
   refine ⟨_,col,rfl,Keep.refl col w' (fun b o id h=>(gG.1 b o id h).2) gG.2,fun b hb o=>⟨Iff.rfl,fun m hm=>⟨fun _=>hm,fun q=>?_⟩⟩,?_,⟨_,_,rfl,trivial,trivial⟩⟩
   · obtain ⟨⟨⟨h1,h2⟩,_⟩,_⟩:=gG.1 b o m hm
     by_cases hg:given m
     · exact ⟨m,hg,hm⟩
     · exact absurd ⟨h2,Eo h1 hg⟩ q
   · unfold uL
     rw [if_neg (by simp [cTz])]
     exact ⟨_,⟨_,[],rfl,⟨_,rfl,rfl⟩,rfl⟩,rfl⟩
 · cases hxy
end
noncomputable def dTz:E:=⟨276,[],cTz,oTz⟩
noncomputable def dIn:E:=⟨376,[],YL,oIn⟩
noncomputable def dDe:E:=⟨377,[],cDe,oDe⟩
noncomputable def g19 (x0:(L Int)):Option ((Bool×Unit)×Unit) :=
some (((decide ((x0.len:Int) > 1048576)),()),())
noncomputable def f19 (x0:(L Int)):Bool :=
(decide ((x0.len:Int) > 1048576))
theorem n19 (x0:(L Int)):g19 x0 = some ((f19 x0,()),()):=by simp only [g19,f19,bL]
noncomputable def d19:E:=⟨19,[],C [.v (.sl (.int .u8))] [.bool] fun x=>some ((f19 x.1,()),()),jO [] [] (fun x=>g19 x.1) Tryz.func19 fun x=>n19 x.1⟩
noncomputable def EM:Xj→Option (nL⊕((((L Int)×(Int×Unit))×Unit)⊕Empty)):=fun ⟨⟨t0,t3,t4,_⟩,_⟩ =>
bif (decide (t4 < (t0.len:Int))) then bif (decide (t4 < 4000)) then bif (decide (0≤t4)&&decide (t4 < (t0.len:Int))) then some (.inl ((t0,((bP .i64 (wI ((wI ((wI (t3 * 131)) + (wI ((L.get t0 t4.toNat))))) + 7)) 1073741823),((wI (t4 + 1)),()))),())) else none else some (.inr (.inl ((t0,(t3,())),()))) else some (.inr (.inl ((t0,(t3,())),())))
noncomputable def g98 (x0:(L Int)):Option (nL×Unit) :=
(aL EM ((x0,((wI (76076 + (x0.len:Int))),(0,()))),())).bind fun d2=>match d2 with | .inl y1=>some (((y1.1.1,(0,y1.1.2)),()),()) | .inr e=>nomatch e
noncomputable def d98:E:=⟨98,[],Cp [.v (.sl (.int .u8))] [dw] fun x=>g98 x.1,fh [] [(0,fx ⟨[(0,.v (.sl (.int .u8))),(3,.v (.int .i64)),(4,.v (.int .i64))],[]⟩ [(.exit 0,⟨[(0,.v (.sl (.int .u8))),(3,.v (.int .i64))],[]⟩)] EM)] Tryz.func98⟩
noncomputable def xY (x0:jE):Option Jj :=
bif (decide (x0.2.1 < (x0.1.len:Int))) then bif (decide (0≤x0.2.1)&&decide (x0.2.1 < (x0.1.len:Int))) then some (((bP .i64 (wI ((bP .i64 (Dj .i64 (dz .i64 (wI ((wI (x0.2.2.1 * 6364136223846793005)) + 1442695040888963407)) 33) (dz .i64 (wI ((wI (x0.2.2.1 * 6364136223846793005)) + 1442695040888963407)) 45)) 255) + (wI ((L.get x0.1 x0.2.1.toNat))))) 255),()),((x0.1,((wI (x0.2.1 + 1)),((wI ((wI (x0.2.2.1 * 6364136223846793005)) + 1442695040888963407)),()))),())) else none else some (((bP .i64 (Dj .i64 (dz .i64 (wI ((wI (x0.2.2.1 * 6364136223846793005)) + 1442695040888963407)) 33) (dz .i64 (wI ((wI (x0.2.2.1 * 6364136223846793005)) + 1442695040888963407)) 45)) 255),()),((x0.1,(x0.2.1,((wI ((wI (x0.2.2.1 * 6364136223846793005)) + 1442695040888963407)),()))),()))
noncomputable def aeP:E:=⟨294,[],C [.pd dw] [(.int .i64)] fun x=>xY x.1,fh [] [] Tryz.func294⟩
noncomputable def bB (x0:jE) (x1:Int):Option Jj :=
bif (decide (x1≤0)) then some ((0,()),(x0,())) else bif (decide (x1≤256)) then (xY x0).bind fun y1=>bif (!decide (x1 = 0)) then some (((Int.tmod y1.1.1 x1),()),(y1.2.1,())) else none else (xY x0).bind fun y2=>(xY y2.2.1).bind fun y3=>(xY y3.2.1).bind fun y4=>(xY y4.2.1).bind fun y5=>bif (!decide (x1 = 0)) then some (((Int.tmod (wI ((wI ((wI ((wI (y2.1.1 * 16777216)) + (wI (y3.1.1 * 65536)))) + (wI (y4.1.1 * 256)))) + y5.1.1)) x1),()),(y5.2.1,())) else none
noncomputable def qP:E:=⟨191,[],C [.pd dw,.v (.int .i64)] [(.int .i64)] fun x=>bB x.1 x.2.1,fh [aeP] [] Tryz.func191⟩
noncomputable def fq (x0:jE) (x1:(L Int)):Option ((Int×Unit)×TJ) :=
(bB x0 (x1.len:Int)).bind fun y1=>bif (decide (0≤y1.1.1)&&decide (y1.1.1 < (x1.len:Int))) then some (((L.get x1 y1.1.1.toNat),()),(y1.2.1,x1,())) else none
noncomputable def xu:E:=⟨289,[],C [.pd dw,.ow (.sl (.int .i64))] [(.int .i64)] fun x=>fq x.1 x.2.1,fh [qP] [] Tryz.func289⟩
noncomputable def KS (x0:jE):Option (((Int×(Int×Unit))×Unit)×nL) :=
(bB x0 3).bind fun y1=>bif (y1.1.1 == 1) then (fq y1.2.1 (L.of (Ty.zero (.int .i64)) [0,1,2,3,100])).bind fun y2=>some (((y1.1.1,y2.1),()),(y2.2.1,())) else some (((y1.1.1,(0,())),()),(y1.2.1,()))
noncomputable def aeQ:E:=⟨290,[],C [.pd dw] [ED] fun x=>KS x.1,fh [qP,xu] [] Tryz.func290⟩
noncomputable def iG (x0:jE) (x1:Int):Option KV :=
(bB x0 x1).bind fun y1=>some (((y1.1.1 == 0),()),(y1.2.1,()))
noncomputable def DF:E:=⟨194,[],C [.pd dw,.v (.int .i64)] [.bool] fun x=>iG x.1 x.2.1,fh [qP] [] Tryz.func194⟩
noncomputable def KT (x0:jE) (x1:Int):Option (Xk×nL) :=
(bB x0 2).bind fun y1=>(bB y1.2.1 x1).bind fun y2=>(bB y2.2.1 (wI (x1 - 1))).bind fun y3=>bif (!decide (x1 = 0)) then bif (y1.1.1 == 1) then (bB y3.2.1 4).bind fun y4=>(iG y4.2.1 6).bind fun y5=>bif y5.1.1 then some (((y1.1.1,(y2.1.1,((Int.tmod (wI ((wI (y2.1.1 + 1)) + y3.1.1)) x1),(8,())))),()),(y5.2.1,())) else some (((y1.1.1,(y2.1.1,((Int.tmod (wI ((wI (y2.1.1 + 1)) + y3.1.1)) x1),((wI (1 + y4.1.1)),())))),()),(y5.2.1,())) else some (((y1.1.1,(y2.1.1,((Int.tmod (wI ((wI (y2.1.1 + 1)) + y3.1.1)) x1),(0,())))),()),(y3.2.1,())) else none
noncomputable def aeR:E:=⟨291,[],C [.pd dw,.v (.int .i64)] [eP] fun x=>KT x.1 x.2.1,fh [qP,DF] [] Tryz.func291⟩
noncomputable def g42 (x0 x1 x2:Int):Option ((Bool×Unit)×Unit) :=
bif (decide (x0 ≥ x1)) then some (((decide (x0≤x2)),()),()) else some ((false,()),())
noncomputable def f42 (x0 x1 x2:Int):Bool :=
bif (decide (x0 ≥ x1)) then (decide (x0≤x2)) else false
theorem n42 (x0:Int) (x1:Int) (x2:Int):g42 x0 x1 x2 = some ((f42 x0 x1 x2,()),()):=by simp only [g42,f42,bL]
noncomputable def w9:E:=⟨42,[],C [.v (.int .i64),.v (.int .i64),.v (.int .i64)] [.bool] fun x=>some ((f42 x.1 x.2.1 x.2.2.1,()),()),jO [] [] (fun x=>g42 x.1 x.2.1 x.2.2.1) Tryz.func42 fun x=>n42 x.1 x.2.1 x.2.2.1⟩
noncomputable def Xp (x0:jN):Option ((Bool×Unit)×Unit) :=
bif (f42 x0.1 1 20) then bif (f42 x0.2.1 0 50) then bif (f42 x0.2.2.1 0 50) then bif (f42 x0.2.2.2.1 0 50) then bif (f42 x0.2.2.2.2.1 0 50) then bif (f42 x0.2.2.2.2.2.1 0 50) then some (((f42 x0.2.2.2.2.2.2.1 0 50),()),()) else some ((false,()),()) else some ((false,()),()) else some ((false,()),()) else some ((false,()),()) else some ((false,()),()) else some ((false,()),())
noncomputable def f249 (x0:jN):Bool :=
bif (f42 x0.1 1 20) then bif (f42 x0.2.1 0 50) then bif (f42 x0.2.2.1 0 50) then bif (f42 x0.2.2.2.1 0 50) then bif (f42 x0.2.2.2.2.1 0 50) then bif (f42 x0.2.2.2.2.2.1 0 50) then (f42 x0.2.2.2.2.2.2.1 0 50) else false else false else false else false else false else false
theorem n249 (x0:jN):Xp x0 = some ((f249 x0,()),()):=by simp only [Xp,f249,bL]
noncomputable def O9:E:=⟨249,[],C [.v iX] [.bool] fun x=>some ((f249 x.1,()),()),jO [w9] [] (fun x=>Xp x.1) Tryz.func249 fun x=>n249 x.1⟩
noncomputable def Qt:Option (((L Int)×Unit)×Unit) :=
some (((L.of (Ty.zero (.int .i64)) [0,7,7,7,7,7,7,7,7,7,7,7,7,11,9,11,11,11,11,11,11,11,9,10,1,11,11,11,9,9,0,0,8]),()),())
noncomputable def sP:(L Int) :=
(L.of (Ty.zero (.int .i64)) [0,7,7,7,7,7,7,7,7,7,7,7,7,11,9,11,11,11,11,11,11,11,9,10,1,11,11,11,9,9,0,0,8])
theorem aeS:Qt = some ((sP,()),()):=by simp only [Qt,sP,bL]
noncomputable def aeT:E:=⟨333,[],C1 [] [(.sl (.int .i64))] fun x=>some ((sP,()),()),jO [] [] (fun x=>Qt) Tryz.func333 fun x=>aeS⟩
noncomputable def GK (x0:Int):Option ((Int×Unit)×Unit) :=
bif (!(f42 x0 0 32)) then some (((-1:Int),()),()) else bif (decide (0≤x0)&&decide (x0 < ((sP).len:Int))) then some (((L.get (sP) x0.toNat),()),()) else none
noncomputable def Xq:E:=⟨250,[],C [.v (.int .i64)] [(.int .i64)] fun x=>GK x.1,fh [w9,aeT] [] Tryz.func250⟩
noncomputable def GJ (x0:jN) (x1:Int):Option ((Int×Unit)×Unit) :=
bif (!(f249 x0)) then some (((-1:Int),()),()) else (GK x1).bind fun y1=>bif (decide (y1.1.1 < 0)) then some (((-1:Int),()),()) else bif (x1 == 9) then some (((wI (x0.1 + x0.2.1)),()),()) else bif (x1 == 10) then some (((wI (x0.1 + x0.2.1)),()),()) else bif (f42 x1 15 18) then some (((wI (x0.1 + x0.2.2.1)),()),()) else bif (decide (x1 ≥ 25)) then some (((wI (x0.1 + x0.2.2.2.2.2.1)),()),()) else some ((x0.1,()),())
noncomputable def aeU:E:=⟨137,[],C [.v iX,.v (.int .i64)] [(.int .i64)] fun x=>GJ x.1 x.2.1,fh [O9,Xq,w9] [] Tryz.func137⟩
noncomputable def Xr (x0:jN) (x1:MK):Option ((Int×Unit)×Unit) :=
bif (!(f249 x0)) then some (((-1:Int),()),()) else bif (!x1.1) then bif (!x1.2.1) then bif x1.2.2.1 then some (((wI ((wI ((wI (0 + x0.2.2.2.1)) + x0.2.2.2.2.1)) + x0.2.2.2.2.2.2.1)),()),()) else some (((wI ((wI (0 + x0.2.2.2.1)) + x0.2.2.2.2.1)),()),()) else bif x1.2.2.1 then some (((wI ((wI (0 + x0.2.2.2.1)) + x0.2.2.2.2.2.2.1)),()),()) else some (((wI (0 + x0.2.2.2.1)),()),()) else bif (!x1.2.1) then bif x1.2.2.1 then some (((wI ((wI (0 + x0.2.2.2.2.1)) + x0.2.2.2.2.2.2.1)),()),()) else some (((wI (0 + x0.2.2.2.2.1)),()),()) else bif x1.2.2.1 then some (((wI (0 + x0.2.2.2.2.2.2.1)),()),()) else some ((0,()),())
noncomputable def f253 (x0:jN) (x1:MK):Int :=
bif (!(f249 x0)) then (-1:Int) else bif (!x1.1) then bif (!x1.2.1) then bif x1.2.2.1 then (wI ((wI ((wI (0 + x0.2.2.2.1)) + x0.2.2.2.2.1)) + x0.2.2.2.2.2.2.1)) else (wI ((wI (0 + x0.2.2.2.1)) + x0.2.2.2.2.1)) else bif x1.2.2.1 then (wI ((wI (0 + x0.2.2.2.1)) + x0.2.2.2.2.2.2.1)) else (wI (0 + x0.2.2.2.1)) else bif (!x1.2.1) then bif x1.2.2.1 then (wI ((wI (0 + x0.2.2.2.2.1)) + x0.2.2.2.2.2.2.1)) else (wI (0 + x0.2.2.2.2.1)) else bif x1.2.2.1 then (wI (0 + x0.2.2.2.2.2.2.1)) else 0
theorem n253 (x0:jN) (x1:MK):Xr x0 x1 = some ((f253 x0 x1,()),()):=by simp only [Xr,f253,bL]
noncomputable def aeV:E:=⟨253,[],C [.v iX,.v (.pair .bool Xi)] [(.int .i64)] fun x=>some ((f253 x.1 x.2.1,()),()),jO [O9] [] (fun x=>Xr x.1 x.2.1) Tryz.func253 fun x=>n253 x.1 x.2.1⟩
noncomputable def vF:P9→Option (KX⊕(((Int×Unit)×Unit)⊕Empty)):=fun ⟨⟨_,t3,t4,_⟩,b1,_⟩ =>
bif (decide (t4 < 8)) then bif (decide ((f253 b1 (((Int.tmod t4 2) == 1),(((Int.tmod (wI (Int.tdiv t4 2)) 2) == 1),(((wI (Int.tdiv t4 4)) == 1),())))) > t3)) then some (.inl (((),((f253 b1 (((Int.tmod t4 2) == 1),(((Int.tmod (wI (Int.tdiv t4 2)) 2) == 1),(((wI (Int.tdiv t4 4)) == 1),())))),((wI (t4 + 1)),()))),(b1,()))) else some (.inl (((),(t3,((wI (t4 + 1)),()))),(b1,()))) else some (.inr (.inl ((t3,()),())))
noncomputable def Tp (x0:jN):Option ((Int×Unit)×Unit) :=
(aL vF (((),((-1:Int),(0,()))),(x0,()))).bind fun d2=>match d2 with | .inl y1=>some ((y1.1.1,()),()) | .inr e=>nomatch e
noncomputable def aiq:E:=⟨360,[],C [.v iX] [(.int .i64)] fun x=>Tp x.1,fh [aeV] [(0,fx ⟨[(1,.bx 1 0),(3,.v (.int .i64)),(4,.v (.int .i64))],[(1,.typ iX)]⟩ [(.exit 0,⟨[(3,.v (.int .i64))],[]⟩)] vF)] Tryz.func360⟩
noncomputable def zF:P9→Option (KX⊕(((Unit×(Int×Unit))×vL)⊕Empty)):=fun ⟨⟨_,t3,t4,_⟩,b1,_⟩ =>
bif (decide (t4 < 33)) then (GJ b1 t4).bind fun y1=>bif (decide (y1.1.1 > t3)) then (GJ b1 t4).bind fun y2=>some (.inl (((),(y2.1.1,((wI (t4 + 1)),()))),(b1,()))) else some (.inl (((),(t3,((wI (t4 + 1)),()))),(b1,()))) else some (.inr (.inl (((),(t3,())),(b1,()))))
noncomputable def Mx (x0:jN):Option ((Int×Unit)×Unit) :=
bif (!(f249 x0)) then some (((-1:Int),()),()) else (aL zF (((),(0,(0,()))),(x0,()))).bind fun d5=>match d5 with | .inl y3=>(Tp y3.2.1).bind fun y4=>some (((wI ((wI (y3.1.2.1 + (wI (2 * y4.1.1)))) + y3.2.1.2.2.2.2.2.1)),()),()) | .inr e=>nomatch e
noncomputable def aai:E:=⟨292,[],C [.v iX] [(.int .i64)] fun x=>Mx x.1,fh [O9,aeU,aiq] [(0,fx ⟨[(1,.bx 1 0),(3,.v (.int .i64)),(4,.v (.int .i64))],[(1,.typ iX)]⟩ [(.exit 0,⟨[(1,.bx 1 0),(3,.v (.int .i64))],[(1,.typ iX)]⟩)] zF)] Tryz.func292⟩
noncomputable def Xt (x0:(Int×(Int×(Int×Unit)))):Option ((Bool×Unit)×Unit) :=
bif (x0.1 == 1) then bif (x0.2.2.1 == 4) then some (((f42 x0.2.1 1 4),()),()) else bif (x0.2.2.1 == 8) then some (((f42 x0.2.1 1 4),()),()) else bif (x0.2.2.1 == 16) then some (((f42 x0.2.1 1 4),()),()) else bif (x0.2.2.1 == 32) then some (((f42 x0.2.1 1 4),()),()) else some ((false,()),()) else bif (x0.1 == 2) then bif (x0.2.2.1 == 4) then some (((f42 x0.2.1 1 4),()),()) else bif (x0.2.2.1 == 8) then some (((f42 x0.2.1 1 4),()),()) else bif (x0.2.2.1 == 16) then some (((f42 x0.2.1 1 4),()),()) else bif (x0.2.2.1 == 32) then some (((f42 x0.2.1 1 4),()),()) else some ((false,()),()) else bif (x0.1 == 4) then bif (x0.2.2.1 == 4) then some (((f42 x0.2.1 1 4),()),()) else bif (x0.2.2.1 == 8) then some (((f42 x0.2.1 1 4),()),()) else bif (x0.2.2.1 == 16) then some (((f42 x0.2.1 1 4),()),()) else bif (x0.2.2.1 == 32) then some (((f42 x0.2.1 1 4),()),()) else some ((false,()),()) else bif (x0.1 == 8) then bif (x0.2.2.1 == 4) then some (((f42 x0.2.1 1 4),()),()) else bif (x0.2.2.1 == 8) then some (((f42 x0.2.1 1 4),()),()) else bif (x0.2.2.1 == 16) then some (((f42 x0.2.1 1 4),()),()) else bif (x0.2.2.1 == 32) then some (((f42 x0.2.1 1 4),()),()) else some ((false,()),()) else bif (x0.2.2.1 == 4) then bif (x0.1 == 16) then some (((f42 x0.2.1 1 4),()),()) else some ((false,()),()) else bif (x0.2.2.1 == 8) then bif (x0.1 == 16) then some (((f42 x0.2.1 1 4),()),()) else some ((false,()),()) else bif (x0.2.2.1 == 16) then bif (x0.1 == 16) then some (((f42 x0.2.1 1 4),()),()) else some ((false,()),()) else bif (x0.1 == 16) then bif (x0.2.2.1 == 32) then some (((f42 x0.2.1 1 4),()),()) else some ((false,()),()) else some ((false,()),())
noncomputable def f237 (x0:(Int×(Int×(Int×Unit)))):Bool :=
bif (x0.1 == 1) then bif (x0.2.2.1 == 4) then (f42 x0.2.1 1 4) else bif (x0.2.2.1 == 8) then (f42 x0.2.1 1 4) else bif (x0.2.2.1 == 16) then (f42 x0.2.1 1 4) else bif (x0.2.2.1 == 32) then (f42 x0.2.1 1 4) else false else bif (x0.1 == 2) then bif (x0.2.2.1 == 4) then (f42 x0.2.1 1 4) else bif (x0.2.2.1 == 8) then (f42 x0.2.1 1 4) else bif (x0.2.2.1 == 16) then (f42 x0.2.1 1 4) else bif (x0.2.2.1 == 32) then (f42 x0.2.1 1 4) else false else bif (x0.1 == 4) then bif (x0.2.2.1 == 4) then (f42 x0.2.1 1 4) else bif (x0.2.2.1 == 8) then (f42 x0.2.1 1 4) else bif (x0.2.2.1 == 16) then (f42 x0.2.1 1 4) else bif (x0.2.2.1 == 32) then (f42 x0.2.1 1 4) else false else bif (x0.1 == 8) then bif (x0.2.2.1 == 4) then (f42 x0.2.1 1 4) else bif (x0.2.2.1 == 8) then (f42 x0.2.1 1 4) else bif (x0.2.2.1 == 16) then (f42 x0.2.1 1 4) else bif (x0.2.2.1 == 32) then (f42 x0.2.1 1 4) else false else bif (x0.2.2.1 == 4) then bif (x0.1 == 16) then (f42 x0.2.1 1 4) else false else bif (x0.2.2.1 == 8) then bif (x0.1 == 16) then (f42 x0.2.1 1 4) else false else bif (x0.2.2.1 == 16) then bif (x0.1 == 16) then (f42 x0.2.1 1 4) else false else bif (x0.1 == 16) then bif (x0.2.2.1 == 32) then (f42 x0.2.1 1 4) else false else false
theorem n237 (x0:(Int×(Int×(Int×Unit)))):Xt x0 = some ((f237 x0,()),()):=by simp only [Xt,f237,bL]
noncomputable def SX:E:=⟨237,[],C [.v bI] [.bool] fun x=>some ((f237 x.1,()),()),jO [w9] [] (fun x=>Xt x.1) Tryz.func237 fun x=>n237 x.1⟩
noncomputable def Xu (x0:gH):Option ((Bool×Unit)×Unit) :=
bif (!(f42 x0.2.1 0 5)) then some ((false,()),()) else bif (!(f42 x0.2.2.1 0 5)) then some ((false,()),()) else bif (x0.2.1 == x0.2.2.1) then some ((false,()),()) else bif (x0.1 == 0) then bif (x0.2.2.2.1 == 0) then some ((true,()),()) else bif (x0.1 == 1) then some (((f42 x0.2.2.2.1 1 8),()),()) else some ((false,()),()) else bif (x0.1 == 1) then some (((f42 x0.2.2.2.1 1 8),()),()) else some ((false,()),())
noncomputable def f328 (x0:gH):Bool :=
bif (!(f42 x0.2.1 0 5)) then false else bif (!(f42 x0.2.2.1 0 5)) then false else bif (x0.2.1 == x0.2.2.1) then false else bif (x0.1 == 0) then bif (x0.2.2.2.1 == 0) then true else bif (x0.1 == 1) then (f42 x0.2.2.2.1 1 8) else false else bif (x0.1 == 1) then (f42 x0.2.2.2.1 1 8) else false
theorem n328 (x0:gH):Xu x0 = some ((f328 x0,()),()):=by simp only [Xu,f328,bL]
noncomputable def Ta:E:=⟨328,[],C [.v eP] [.bool] fun x=>some ((f328 x.1,()),()),jO [w9] [] (fun x=>Xu x.1) Tryz.func328 fun x=>n328 x.1⟩
noncomputable def rR:(((yG×(Unit×(Int×(Int×Unit))))×vL))→Option (((yG×(Unit×(Int×(Int×Unit))))×vL)⊕(((Int×Unit)×Unit)⊕(((Int×Unit)×Unit)⊕Empty))):=fun ⟨⟨t2,_,t7,t8,_⟩,b3,_⟩ =>
bif (decide (t8 < (t2.len:Int))) then bif (decide (0≤t8)&&decide (t8 < (t2.len:Int))) then bif (!(f328 (L.get t2 t8.toNat))) then some (.inr (.inl (((-1:Int),()),()))) else bif (decide (0≤t8)&&decide (t8 < (t2.len:Int))) then bif ((L.get t2 t8.toNat).1 == 0) then some (.inl ((t2,((),((wI (t7 + b3.1)),((wI (t8 + 1)),())))),(b3,()))) else bif (decide (0≤t8)&&decide (t8 < (t2.len:Int))) then some (.inl ((t2,((),((wI (t7 + (wI (b3.1 * (L.get t2 t8.toNat).2.2.2.1)))),((wI (t8 + 1)),())))),(b3,()))) else none else none else none else some (.inr (.inr (.inl ((t7,()),()))))
noncomputable def EH (x0:jN) (x1:(Int×(Int×(Int×Unit)))) (x2:yG):Option ((Int×Unit)×Unit) :=
bif (!(f249 x0)) then some (((-1:Int),()),()) else bif (!(f237 x1)) then some (((-1:Int),()),()) else bif (decide ((x2.len:Int) > 8)) then some (((-1:Int),()),()) else (aL rR ((x2,((),((wI ((wI (16 * x0.1)) + (wI ((wI (x1.1 * x1.2.1)) * x0.2.2.2.2.2.2.1)))),(0,())))),(x0,()))).bind fun d3=>match d3 with | .inl y1=>some ((y1.1.1,()),()) | .inr (.inl y2)=>some ((y2.1.1,()),()) | .inr (.inr e)=>nomatch e
noncomputable def aal:E:=⟨293,[],C [.v iX,.v bI,.v vk] [(.int .i64)] fun x=>EH x.1 x.2.1 x.2.2.1,fh [O9,SX,Ta] [(0,fx ⟨[(2,.v vk),(3,.bx 3 0),(7,.v (.int .i64)),(8,.v (.int .i64))],[(3,.typ iX)]⟩ [(.ret,⟨[(6,.v (.int .i64))],[]⟩),(.exit 0,⟨[(7,.v (.int .i64))],[]⟩)] rR)] Tryz.func293⟩
noncomputable def qI:((P5×(jE×(GZ×((Int×(Int×(Int×(Int×(Int×(Int×(Int×(Int×(Int×(Int×(Int×(Int×Qd))))))))))))×Unit)))))→Option ((P5×(jE×(GZ×((Int×(Int×(Int×(Int×(Int×(Int×(Int×(Int×(Int×(Int×(Int×(Int×Qd))))))))))))×Unit))))⊕(G6⊕Empty)):=fun ⟨⟨_,t1,_,_,t6,t7,_⟩,vd,_,⟨ud,ue,uh,ui,uj,uk,ul,um,un,uo,up,uq,ub,uc,ut,wJ,wP,wQ,wR,_⟩,_⟩ =>
bif (decide (t7 < t1)) then bif (decide (0≤t7)&&decide (t7 < 6)) then (KS vd).bind fun y13=>(bB y13.2.1 2).bind fun ME=>(bB ME.2.1 4).bind fun Gs=>(bB Gs.2.1 2).bind fun BH=>(bB BH.2.1 3).bind fun EA=>bif (decide (wJ.len + (L.of (Ty.zero iW) [((L.get (L.of (Ty.zero .str) [(⟨#[97,108,112,104,97]⟩:ByteArray),(⟨#[98,101,116,97]⟩:ByteArray),(⟨#[103,97,109,109,97]⟩:ByteArray),(⟨#[100,101,108,116,97]⟩:ByteArray),(⟨#[101,112,115]⟩:ByteArray),(⟨#[122,101,116,97]⟩:ByteArray)]) t7.toNat),((wI (t6 + (wI (4 * BH.1.1)))),(y13.1.1,((L.of (Ty.zero bI) [(t6,(128,(5,()))),((wI ((wI (t6 + 128)) + (wI (4 * ME.1.1)))),((wI (32 + (wI (4 * Gs.1.1)))),(3,())))]),()))))]).len≤most)) then some (.inl (((),(t1,((),((),((wI ((wI ((wI ((wI (t6 + 128)) + (wI (4 * ME.1.1)))) + (wI (32 + (wI (4 * Gs.1.1)))))) + (wI (4 * EA.1.1)))),((wI (t7 + 1)),())))))),(EA.2.1,(((),((),((),((),((),((),((),((),((),((),((),((),((),((),((),((),((),((),((),()))))))))))))))))))),((ud,(ue,(uh,(ui,(uj,(uk,(ul,(um,(un,(uo,(up,(uq,(ub,(uc,(ut,((L.app wJ (L.of (Ty.zero iW) [((L.get (L.of (Ty.zero .str) [(⟨#[97,108,112,104,97]⟩:ByteArray),(⟨#[98,101,116,97]⟩:ByteArray),(⟨#[103,97,109,109,97]⟩:ByteArray),(⟨#[100,101,108,116,97]⟩:ByteArray),(⟨#[101,112,115]⟩:ByteArray),(⟨#[122,101,116,97]⟩:ByteArray)]) t7.toNat),((wI (t6 + (wI (4 * BH.1.1)))),(y13.1.1,((L.of (Ty.zero bI) [(t6,(128,(5,()))),((wI ((wI (t6 + 128)) + (wI (4 * ME.1.1)))),((wI (32 + (wI (4 * Gs.1.1)))),(3,())))]),()))))])),(wP,(wQ,(wR,()))))))))))))))))))),()))))) else none else none else some (.inr (.inl (((),(t1,((),((),(t6,()))))),(vd,(((),((),((),((),((),((),((),((),((),((),((),((),((),((),((),((),((),((),((),()))))))))))))))))))),((ud,(ue,(uh,(ui,(uj,(uk,(ul,(um,(un,(uo,(up,(uq,(ub,(uc,(ut,((),((),((),((),()))))))))))))))))))),(wJ,(wP,(wQ,(wR,()))))))))))
noncomputable def qJ:(G6)→Option (G6⊕(((Unit×YK)×Dy)⊕Empty)):=fun ⟨⟨_,t1,_,_,t11,_⟩,vd,_,⟨ud,ue,uh,ui,uj,uk,ul,um,un,uo,up,uq,ub,uc,ut,_⟩,uB,ux,uz,uv,_⟩ =>
(bB vd 4).bind fun Fa=>bif (decide (t11 < Fa.1.1)) then (bB Fa.2.1 t1).bind fun y20=>bif (decide (ux.len + (L.of (Ty.zero (.int .i64)) [y20.1.1]).len≤most)) then some (.inl (((),(t1,((),((),((wI (t11 + 1)),()))))),(y20.2.1,(((),((),((),((),((),((),((),((),((),((),((),((),((),((),((),((),((),((),((),()))))))))))))))))))),((ud,(ue,(uh,(ui,(uj,(uk,(ul,(um,(un,(uo,(up,(uq,(ub,(uc,(ut,((),((),((),((),()))))))))))))))))))),(uB,((L.app ux (L.of (Ty.zero (.int .i64)) [y20.1.1])),(uz,(uv,()))))))))) else none else some (.inr (.inl (((),(t1,((),((),())))),(Fa.2.1,(((),((),((),((),((),((),((),((),((),((),((),((),((),((),((),((),((),((),((),()))))))))))))))))))),((ud,(ue,(uh,(ui,(uj,(uk,(ul,(um,(un,(uo,(up,(uq,(ub,(uc,(ut,((),((),((),((),()))))))))))))))))))),(uB,(ux,(uz,(uv,()))))))))))
noncomputable def qK:(G6)→Option (G6⊕(((Unit×YK)×Dy)⊕Empty)):=fun ⟨⟨_,t1,_,_,t12,_⟩,vd,_,⟨ud,ue,uh,ui,uj,uk,ul,um,un,uo,up,uq,ub,uc,ut,_⟩,uB,ux,uz,uv,_⟩ =>
(bB vd 5).bind fun y22=>bif (decide (t12 < y22.1.1)) then (KT y22.2.1 t1).bind fun y23=>bif (decide (uz.len + (L.of (Ty.zero eP) [y23.1.1]).len≤most)) then some (.inl (((),(t1,((),((),((wI (t12 + 1)),()))))),(y23.2.1,(((),((),((),((),((),((),((),((),((),((),((),((),((),((),((),((),((),((),((),()))))))))))))))))))),((ud,(ue,(uh,(ui,(uj,(uk,(ul,(um,(un,(uo,(up,(uq,(ub,(uc,(ut,((),((),((),((),()))))))))))))))))))),(uB,(ux,((L.app uz (L.of (Ty.zero eP) [y23.1.1])),(uv,()))))))))) else none else some (.inr (.inl (((),(t1,((),((),())))),(y22.2.1,(((),((),((),((),((),((),((),((),((),((),((),((),((),((),((),((),((),((),((),()))))))))))))))))))),((ud,(ue,(uh,(ui,(uj,(uk,(ul,(um,(un,(uo,(up,(uq,(ub,(uc,(ut,((),((),((),((),()))))))))))))))))))),(uB,(ux,(uz,(uv,()))))))))))
noncomputable def qL:((P5×Dy))→Option ((P5×Dy)⊕((BU×Dy)⊕Empty)):=fun ⟨⟨_,t1,_,_,nE,fH,_⟩,vd,_,⟨ud,ue,uh,ui,uj,uk,ul,um,un,uo,up,uq,ub,uc,ut,_⟩,uB,ux,uz,uv,_⟩ =>
(bB vd 3).bind fun UK=>bif (decide (fH < (wI (t1 + UK.1.1)))) then bif (!decide (t1 = 0)) then (bB UK.2.1 90).bind fun y31=>(iG y31.2.1 5).bind fun y32=>bif y32.1.1 then (bB y32.2.1 t1).bind fun y33=>bif (decide (uv.len + (L.of (Ty.zero bI) [(y33.1.1,(nE,((wI ((wI ((wI (ub + uc)) + 1)) + y31.1.1)),())))]).len≤most)) then (fq y33.2.1 (L.of (Ty.zero (.int .i64)) [0,0,3])).bind fun y34=>some (.inl (((),(t1,((),((),((wI ((wI (nE + (wI ((wI ((wI (ub + uc)) + 1)) + y31.1.1)))) + y34.1.1)),((wI (fH + 1)),())))))),(y34.2.1,(((),((),((),((),((),((),((),((),((),((),((),((),((),((),((),((),((),((),((),()))))))))))))))))))),((ud,(ue,(uh,(ui,(uj,(uk,(ul,(um,(un,(uo,(up,(uq,(ub,(uc,(ut,((),((),((),((),()))))))))))))))))))),(uB,(ux,(uz,((L.app uv (L.of (Ty.zero bI) [(y33.1.1,(nE,((wI ((wI ((wI (ub + uc)) + 1)) + y31.1.1)),())))])),()))))))))) else none else bif (decide (uv.len + (L.of (Ty.zero bI) [((Int.tmod fH t1),(nE,((wI ((wI ((wI (ub + uc)) + 1)) + y31.1.1)),())))]).len≤most)) then (fq y32.2.1 (L.of (Ty.zero (.int .i64)) [0,0,3])).bind fun y35=>some (.inl (((),(t1,((),((),((wI ((wI (nE + (wI ((wI ((wI (ub + uc)) + 1)) + y31.1.1)))) + y35.1.1)),((wI (fH + 1)),())))))),(y35.2.1,(((),((),((),((),((),((),((),((),((),((),((),((),((),((),((),((),((),((),((),()))))))))))))))))))),((ud,(ue,(uh,(ui,(uj,(uk,(ul,(um,(un,(uo,(up,(uq,(ub,(uc,(ut,((),((),((),((),()))))))))))))))))))),(uB,(ux,(uz,((L.app uv (L.of (Ty.zero bI) [((Int.tmod fH t1),(nE,((wI ((wI ((wI (ub + uc)) + 1)) + y31.1.1)),())))])),()))))))))) else none else none else some (.inr (.inl (((),((),((),()))),(UK.2.1,(((),((),((),((),((),((),((),((),((),((),((),((),((),((),((),((),((),((),((),()))))))))))))))))))),((ud,(ue,(uh,(ui,(uj,(uk,(ul,(um,(un,(uo,(up,(uq,(ub,(uc,(ut,((),((),((),((),()))))))))))))))))))),(uB,(ux,(uz,(uv,()))))))))))
noncomputable def KU (x0:jE) (x1:Int):Option (qy×nL) :=
(fq x0 (L.of (Ty.zero (.int .i64)) [1,2,4])).bind fun y1=>(bB y1.2.1 2).bind fun y2=>(fq y2.2.1 (L.of (Ty.zero (.int .i64)) [4,8,16])).bind fun y3=>(bB y3.2.1 4).bind fun y4=>(bB y4.2.1 2).bind fun y5=>(bB y5.2.1 4).bind fun y6=>(bB y6.2.1 3).bind fun y7=>(bB y7.2.1 6).bind fun y8=>(bB y8.2.1 4).bind fun y9=>(bB y9.2.1 3).bind fun wV=>(bB wV.2.1 3).bind fun EB=>(bB EB.2.1 4).bind fun kY=>(aL qI (((),(x1,((),((),((wI (4 * kY.1.1)),(0,())))))),(kY.2.1,(((),((),((),((),((),((),((),((),((),((),((),((),((),((),((),((),((),((),((),()))))))))))))))))))),((0,(y1.1.1,((wI (1 + y2.1.1)),(y3.1.1,((wI (1 + y4.1.1)),((wI (1 + y5.1.1)),(y6.1.1,(y7.1.1,(y8.1.1,(y9.1.1,(wV.1.1,(EB.1.1,(0,(0,(0,((bG iW),((bG (.int .i64)),((bG eP),((bG bI),()))))))))))))))))))),()))))).bind fun d41=>match d41 with | .inl mD=>((aL qJ (((),(mD.1.2.1,((),((),(0,()))))),(mD.2.1,(((),((),((),((),((),((),((),((),((),((),((),((),((),((),((),((),((),((),((),()))))))))))))))))))),(((wI (mD.1.2.2.2.2.1 + 64)),mD.2.2.2.1.2),mD.2.2.2.2))))).bind fun d40=>match d40 with | .inl y21=>((aL qK (((),(y21.1.2.1,((),((),(0,()))))),y21.2)).bind fun d39=>match d39 with | .inl y24=>(Mx (y24.2.2.2.1.2.2.2.2.2.1,(y24.2.2.2.1.2.2.2.2.2.2.1,(y24.2.2.2.1.2.2.2.2.2.2.2.1,(y24.2.2.2.1.2.2.2.2.2.2.2.2.1,(y24.2.2.2.1.2.2.2.2.2.2.2.2.2.1,(y24.2.2.2.1.2.2.2.2.2.2.2.2.2.2.1,(y24.2.2.2.1.2.2.2.2.2.2.2.2.2.2.2.1,())))))))).bind fun y25=>(fq y24.2.1 (L.of (Ty.zero (.int .i64)) [0,0,1,5])).bind fun MN=>(EH (y24.2.2.2.1.2.2.2.2.2.1,(y24.2.2.2.1.2.2.2.2.2.2.1,(y24.2.2.2.1.2.2.2.2.2.2.2.1,(y24.2.2.2.1.2.2.2.2.2.2.2.2.1,(y24.2.2.2.1.2.2.2.2.2.2.2.2.2.1,(y24.2.2.2.1.2.2.2.2.2.2.2.2.2.2.1,(y24.2.2.2.1.2.2.2.2.2.2.2.2.2.2.2.1,()))))))) (y24.2.2.2.1.2.1,(y24.2.2.2.1.2.2.1,(y24.2.2.2.1.2.2.2.1,()))) y24.2.2.2.2.2.2.1).bind fun y27=>(fq MN.2.1 (L.of (Ty.zero (.int .i64)) [0,0,1,7])).bind fun y28=>(fq y28.2.1 (L.of (Ty.zero (.int .i64)) [0,0,5])).bind fun y29=>((aL qL (((),(y24.1.2.1,((),((),(y29.1.1,(0,())))))),(y29.2.1,(((),((),((),((),((),((),((),((),((),((),((),((),((),((),((),((),((),((),((),()))))))))))))))))))),((y24.2.2.2.1.1,(y24.2.2.2.1.2.1,(y24.2.2.2.1.2.2.1,(y24.2.2.2.1.2.2.2.1,(y24.2.2.2.1.2.2.2.2.1,(y24.2.2.2.1.2.2.2.2.2.1,(y24.2.2.2.1.2.2.2.2.2.2.1,(y24.2.2.2.1.2.2.2.2.2.2.2.1,(y24.2.2.2.1.2.2.2.2.2.2.2.2.1,(y24.2.2.2.1.2.2.2.2.2.2.2.2.2.1,(y24.2.2.2.1.2.2.2.2.2.2.2.2.2.2.1,(y24.2.2.2.1.2.2.2.2.2.2.2.2.2.2.2.1,((wI (y27.1.1 + y28.1.1)),((wI (y25.1.1 + MN.1.1)),y24.2.2.2.1.2.2.2.2.2.2.2.2.2.2.2.2.2.2)))))))))))))),y24.2.2.2.2))))).bind fun d38=>match d38 with | .inl xZ=>bif (decide (0≤(wI ((xZ.2.2.2.2.2.2.2.1.len:Int) - 1)))&&decide ((wI ((xZ.2.2.2.2.2.2.2.1.len:Int) - 1)) < (xZ.2.2.2.2.2.2.2.1.len:Int))) then (fq xZ.2.1 (L.of (Ty.zero (.int .i64)) [0,0,1,20])).bind fun y37=>some (((xZ.2.2.2.1.1,((xZ.2.2.2.1.2.1,(xZ.2.2.2.1.2.2.1,(xZ.2.2.2.1.2.2.2.1,()))),(xZ.2.2.2.1.2.2.2.2.1,((xZ.2.2.2.1.2.2.2.2.2.1,(xZ.2.2.2.1.2.2.2.2.2.2.1,(xZ.2.2.2.1.2.2.2.2.2.2.2.1,(xZ.2.2.2.1.2.2.2.2.2.2.2.2.1,(xZ.2.2.2.1.2.2.2.2.2.2.2.2.2.1,(xZ.2.2.2.1.2.2.2.2.2.2.2.2.2.2.1,(xZ.2.2.2.1.2.2.2.2.2.2.2.2.2.2.2.1,()))))))),(xZ.2.2.2.1.2.2.2.2.2.2.2.2.2.2.2.2.1,(xZ.2.2.2.1.2.2.2.2.2.2.2.2.2.2.2.2.2.1,((wI ((wI ((L.get xZ.2.2.2.2.2.2.2.1 (wI ((xZ.2.2.2.2.2.2.2.1.len:Int) - 1)).toNat).2.1 + (L.get xZ.2.2.2.2.2.2.2.1 (wI ((xZ.2.2.2.2.2.2.2.1.len:Int) - 1)).toNat).2.2.1)) + y37.1.1)),xZ.2.2.2.2))))))),()),(y37.2.1,())) else none | .inr e=>nomatch e) | .inr e=>nomatch e) | .inr e=>nomatch e) | .inr e=>nomatch e
noncomputable def aeW:E:=⟨190,[],C [.pd dw,.v (.int .i64)] [bA] fun x=>KU x.1 x.2.1,fh [xu,qP,aeQ,aeR,aai,aal,DF] [(0,fx ⟨[(0,.bx 100000000 0),(1,.v (.int .i64)),(4,.bx 4 0),(5,.bx 5 0),(6,.v (.int .i64)),(7,.v (.int .i64))],[(100000000,.typ dw),(4,.cells [.any,.any,.any,.any,.any,.any,.any,.any,.any,.any,.any,.any,.any,.any,.any,.any,.any,.any,.any]),(5,.cells [.v (.int .i64),.v (.int .i64),.v (.int .i64),.v (.int .i64),.v (.int .i64),.v (.int .i64),.v (.int .i64),.v (.int .i64),.v (.int .i64),.v (.int .i64),.v (.int .i64),.v (.int .i64),.v (.int .i64),.v (.int .i64),.v (.int .i64),.row iW 60335,.row (.int .i64) 60336,.row eP 60337,.row bI 60338])]⟩ [(.exit 0,⟨[(0,.bx 100000000 0),(1,.v (.int .i64)),(4,.bx 4 0),(5,.bx 5 0),(6,.v (.int .i64))],[(100000000,.typ dw),(4,.cells [.any,.any,.any,.any,.any,.any,.any,.any,.any,.any,.any,.any,.any,.any,.any,.any,.any,.any,.any]),(5,.cells [.v (.int .i64),.v (.int .i64),.v (.int .i64),.v (.int .i64),.v (.int .i64),.v (.int .i64),.v (.int .i64),.v (.int .i64),.v (.int .i64),.v (.int .i64),.v (.int .i64),.v (.int .i64),.v (.int .i64),.v (.int .i64),.v (.int .i64),.ms 60335,.ms 60336,.ms 60337,.ms 60338]),(60335,.row iW),(60336,.row (.int .i64)),(60337,.row eP),(60338,.row bI)]⟩)] qI),(2,fx ⟨[(0,.bx 100000000 0),(1,.v (.int .i64)),(4,.bx 4 0),(5,.bx 5 0),(11,.v (.int .i64))],[(100000000,.typ dw),(4,.cells [.any,.any,.any,.any,.any,.any,.any,.any,.any,.any,.any,.any,.any,.any,.any,.any,.any,.any,.any]),(5,.cells [.v (.int .i64),.v (.int .i64),.v (.int .i64),.v (.int .i64),.v (.int .i64),.v (.int .i64),.v (.int .i64),.v (.int .i64),.v (.int .i64),.v (.int .i64),.v (.int .i64),.v (.int .i64),.v (.int .i64),.v (.int .i64),.v (.int .i64),.ms 60335,.ms 60336,.ms 60337,.ms 60338]),(60335,.row iW),(60336,.row (.int .i64)),(60337,.row eP),(60338,.row bI)]⟩ [(.exit 2,⟨[(0,.bx 100000000 0),(1,.v (.int .i64)),(4,.bx 4 0),(5,.bx 5 0)],[(100000000,.typ dw),(4,.cells [.any,.any,.any,.any,.any,.any,.any,.any,.any,.any,.any,.any,.any,.any,.any,.any,.any,.any,.any]),(5,.cells [.v (.int .i64),.v (.int .i64),.v (.int .i64),.v (.int .i64),.v (.int .i64),.v (.int .i64),.v (.int .i64),.v (.int .i64),.v (.int .i64),.v (.int .i64),.v (.int .i64),.v (.int .i64),.v (.int .i64),.v (.int .i64),.v (.int .i64),.ms 60335,.ms 60336,.ms 60337,.ms 60338]),(60335,.row iW),(60336,.row (.int .i64)),(60337,.row eP),(60338,.row bI)]⟩)] qJ),(4,fx ⟨[(0,.bx 100000000 0),(1,.v (.int .i64)),(4,.bx 4 0),(5,.bx 5 0),(12,.v (.int .i64))],[(100000000,.typ dw),(4,.cells [.any,.any,.any,.any,.any,.any,.any,.any,.any,.any,.any,.any,.any,.any,.any,.any,.any,.any,.any]),(5,.cells [.v (.int .i64),.v (.int .i64),.v (.int .i64),.v (.int .i64),.v (.int .i64),.v (.int .i64),.v (.int .i64),.v (.int .i64),.v (.int .i64),.v (.int .i64),.v (.int .i64),.v (.int .i64),.v (.int .i64),.v (.int .i64),.v (.int .i64),.ms 60335,.ms 60336,.ms 60337,.ms 60338]),(60335,.row iW),(60336,.row (.int .i64)),(60337,.row eP),(60338,.row bI)]⟩ [(.exit 4,⟨[(0,.bx 100000000 0),(1,.v (.int .i64)),(4,.bx 4 0),(5,.bx 5 0)],[(100000000,.typ dw),(4,.cells [.any,.any,.any,.any,.any,.any,.any,.any,.any,.any,.any,.any,.any,.any,.any,.any,.any,.any,.any]),(5,.cells [.v (.int .i64),.v (.int .i64),.v (.int .i64),.v (.int .i64),.v (.int .i64),.v (.int .i64),.v (.int .i64),.v (.int .i64),.v (.int .i64),.v (.int .i64),.v (.int .i64),.v (.int .i64),.v (.int .i64),.v (.int .i64),.v (.int .i64),.ms 60335,.ms 60336,.ms 60337,.ms 60338]),(60335,.row iW),(60336,.row (.int .i64)),(60337,.row eP),(60338,.row bI)]⟩)] qK),(6,fx ⟨[(0,.bx 100000000 0),(1,.v (.int .i64)),(4,.bx 4 0),(5,.bx 5 0),(13,.v (.int .i64)),(14,.v (.int .i64))],[(100000000,.typ dw),(4,.cells [.any,.any,.any,.any,.any,.any,.any,.any,.any,.any,.any,.any,.any,.any,.any,.any,.any,.any,.any]),(5,.cells [.v (.int .i64),.v (.int .i64),.v (.int .i64),.v (.int .i64),.v (.int .i64),.v (.int .i64),.v (.int .i64),.v (.int .i64),.v (.int .i64),.v (.int .i64),.v (.int .i64),.v (.int .i64),.v (.int .i64),.v (.int .i64),.v (.int .i64),.ms 60335,.ms 60336,.ms 60337,.ms 60338]),(60335,.row iW),(60336,.row (.int .i64)),(60337,.row eP),(60338,.row bI)]⟩ [(.exit 6,⟨[(0,.bx 100000000 0),(4,.bx 4 0),(5,.bx 5 0)],[(100000000,.typ dw),(4,.cells [.any,.any,.any,.any,.any,.any,.any,.any,.any,.any,.any,.any,.any,.any,.any,.any,.any,.any,.any]),(5,.cells [.v (.int .i64),.v (.int .i64),.v (.int .i64),.v (.int .i64),.v (.int .i64),.v (.int .i64),.v (.int .i64),.v (.int .i64),.v (.int .i64),.v (.int .i64),.v (.int .i64),.v (.int .i64),.v (.int .i64),.v (.int .i64),.v (.int .i64),.ms 60335,.ms 60336,.ms 60337,.ms 60338]),(60335,.row iW),(60336,.row (.int .i64)),(60337,.row eP),(60338,.row bI)]⟩)] qL)] Tryz.func190⟩
noncomputable def vQ (y2:((Int×Unit)×Unit)) (y1 wY:Jj) (jM iM mE:Int):Option P8 :=
bif ((Int.tmod (wI (Int.tdiv y2.1.1 8)) 2) == 1) then (bB wY.2.1 17).bind fun cO=>(bB cO.2.1 8).bind fun eZ=>bif (eZ.1.1 == 0) then (fq eZ.2.1 (L.of (Ty.zero (.int .i64)) [ (-8192:Int),8191,0 ])).bind fun sF=>some (((y1.1.1,(jM,(iM,(mE,sF.1)))),()),(sF.2.1,())) else bif (eZ.1.1 == 1) then (bB eZ.2.1 16384).bind fun BQ=>some (((y1.1.1,(jM,(iM,(mE,((wI (BQ.1.1 - 8192)),()))))),()),(BQ.2.1,())) else some (((y1.1.1,(jM,(iM,(mE,((wI (cO.1.1 - 8)),()))))),()),(eZ.2.1,())) else some (((y1.1.1,(jM,(iM,(mE,(0,()))))),()),(wY.2.1,()))
noncomputable def EP (y2:((Int×Unit)×Unit)) (y1 Xv:Jj) (TP:Int):Option P8 :=
bif ((Int.tmod (wI (Int.tdiv y2.1.1 2)) 2) == 1) then (bB Xv.2.1 16).bind fun lU=>bif ((Int.tmod (wI (Int.tdiv y2.1.1 4)) 2) == 1) then (bB lU.2.1 16).bind fun Mw=>vQ y2 y1 Mw TP lU.1.1 Mw.1.1 else vQ y2 y1 lU TP lU.1.1 0 else bif ((Int.tmod (wI (Int.tdiv y2.1.1 4)) 2) == 1) then (bB Xv.2.1 16).bind fun BR=>vQ y2 y1 BR TP 0 BR.1.1 else vQ y2 y1 Xv TP 0 0
noncomputable def K4 (x0:jE):Option P8 :=
(bB x0 33).bind fun y1=>(GK y1.1.1).bind fun y2=>bif ((Int.tmod y2.1.1 2) == 1) then (bB y1.2.1 16).bind fun y3=>EP y2 y1 y3 y3.1.1 else EP y2 y1 y1 0
noncomputable def aeX:E:=⟨382,[],C [.pd dw] [qB] fun x=>K4 x.1,fh [qP,Xq,xu] [] Tryz.func382⟩
noncomputable def Jm (x0 x1 x2 x3 x4:Int):Option ((Bool×Unit)×Unit) :=
bif (!decide (x1 = 0)) then bif ((Int.tmod (wI (Int.tdiv x0 x1)) 2) == 0) then some (((x2 == 0),()),()) else some (((f42 x2 x3 x4),()),()) else none
noncomputable def air:E:=⟨335,[],C [.v (.int .i64),.v (.int .i64),.v (.int .i64),.v (.int .i64),.v (.int .i64)] [.bool] fun x=>Jm x.1 x.2.1 x.2.2.1 x.2.2.2.1 x.2.2.2.2.1,fh [w9] [] Tryz.func335⟩
noncomputable def Qu (x0:sD):Option ((Bool×Unit)×Unit) :=
(GK x0.1).bind fun y1=>bif (decide (y1.1.1 ≥ 0)) then (Jm y1.1.1 1 x0.2.1 0 15).bind fun y2=>bif y2.1.1 then (Jm y1.1.1 2 x0.2.2.1 0 15).bind fun y3=>bif y3.1.1 then (Jm y1.1.1 4 x0.2.2.2.1 0 15).bind fun y4=>bif y4.1.1 then (Jm y1.1.1 8 x0.2.2.2.2.1 (-8192:Int) 8191).bind fun y5=>some ((y5.1.1,()),()) else some ((false,()),()) else some ((false,()),()) else some ((false,()),()) else some ((false,()),())
noncomputable def aeY:E:=⟨254,[],C [.v qB] [.bool] fun x=>Qu x.1,fh [Xq,air] [] Tryz.func254⟩
noncomputable def MO (x0 x1:Int):Option ((Int×Unit)×Unit) :=
bif (!decide (x1 = 0)) then bif (decide ((Int.tmod x0 x1) < 0)) then some (((wI ((Int.tmod x0 x1) + x1)),()),()) else some (((Int.tmod x0 x1),()),()) else none
noncomputable def Xw:E:=⟨241,[],C [.v (.int .i64),.v (.int .i64)] [(.int .i64)] fun x=>MO x.1 x.2.1,fh [] [] Tryz.func241⟩
noncomputable def Cg (x0:sD):Option Ta2 :=
(Qu x0).bind fun y1=>bif (!y1.1.1) then some ((0,false,()),()) else (MO x0.2.2.2.2.1 16384).bind fun y2=>some (((IntKind.wrap .u32 ((wI ((wI ((wI ((wI ((wI (x0.1 * 67108864)) + (wI (x0.2.1 * 4194304)))) + (wI (x0.2.2.1 * 262144)))) + (wI (x0.2.2.2.1 * 16384)))) + y2.1.1)))),true,()),())
noncomputable def aeZ:E:=⟨362,[],C [.v qB] [(.int .u32),.bool] fun x=>Cg x.1,fh [aeY,Xw] [] Tryz.func362⟩
noncomputable def vR (x0:jE):Option Jj :=
(bB x0 4).bind fun y1=>bif (y1.1.1 == 0) then (fq y1.2.1 (L.of (Ty.zero (.int .i64)) [0,1,2,31,32,255,256,2147483647,2147483648,4294967295,4294967294])).bind fun y2=>some (((IntKind.wrap .u32 (y2.1.1)),()),(y2.2.1,())) else bif (y1.1.1 == 1) then (bB y1.2.1 300).bind fun y3=>some (((IntKind.wrap .u32 (y3.1.1)),()),(y3.2.1,())) else (bB y1.2.1 65536).bind fun y4=>(bB y4.2.1 65536).bind fun y5=>some (((IntKind.wrap .u32 ((IntKind.wrap .u32 ((IntKind.wrap .u32 (y4.1.1)) * 65536)) + (IntKind.wrap .u32 (y5.1.1)))),()),(y5.2.1,()))
noncomputable def Qv:E:=⟨299,[],C [.pd dw] [(.int .u32)] fun x=>vR x.1,fh [qP,xu] [] Tryz.func299⟩
noncomputable def fJ (M6:(L Int)) (t1 t2 t8:Int) (iM:sD) (mE:Jj):Option (Qa⊕(P7⊕Empty)) :=
(Cg iM).bind fun cO=>(iG mE.2.1 30).bind fun eZ=>bif eZ.1.1 then (vR eZ.2.1).bind fun sF=>bif (decide (M6.len + (L.of (Ty.zero (.int .u32)) [sF.1.1]).len≤most)) then some (.inl (((),(t1,(t2,((),((wI (t8 + 1)),()))))),(sF.2.1,((L.app M6 (L.of (Ty.zero (.int .u32)) [sF.1.1])),())))) else none else bif (decide (M6.len + (L.of (Ty.zero (.int .u32)) [cO.1.1]).len≤most)) then some (.inl (((),(t1,(t2,((),((wI (t8 + 1)),()))))),(eZ.2.1,((L.app M6 (L.of (Ty.zero (.int .u32)) [cO.1.1])),())))) else none
noncomputable def rV:(Qa)→Option (Qa⊕(P7⊕Empty)):=fun ⟨⟨_,t1,t2,_,t8,_⟩,vd,M6,_⟩ =>
bif (decide (t8 < t1)) then (K4 vd).bind fun y1=>(bB y1.2.1 8).bind fun y2=>bif (y2.1.1 == 0) then (fq y2.2.1 (L.of (Ty.zero (.int .i64)) [15,16,17,18])).bind fun y3=>(bB y3.2.1 5).bind fun y4=>(bB y4.2.1 10).bind fun y5=>fJ M6 t1 t2 t8 (y3.1.1,((wI (1 + y4.1.1)),(0,(0,((wI (t2 + (wI (y5.1.1 * 4)))),()))))) y5 else bif (y2.1.1 == 1) then (bB y2.2.1 5).bind fun y9=>(bB y9.2.1 4).bind fun wV=>(bB wV.2.1 30).bind fun EB=>fJ M6 t1 t2 t8 (13,((wI (1 + y9.1.1)),(wV.1.1,(0,((wI (EB.1.1 - 8)),()))))) EB else bif (y2.1.1 == 2) then (bB y2.2.1 5).bind fun Gs=>fJ M6 t1 t2 t8 (24,((wI (1 + Gs.1.1)),(0,(0,(0,()))))) Gs else bif (y2.1.1 == 3) then (bB y2.2.1 12).bind fun Fa=>(bB Fa.2.1 5).bind fun y20=>(bB y20.2.1 5).bind fun y21=>(bB y21.2.1 5).bind fun y22=>fJ M6 t1 t2 t8 ((wI (Fa.1.1 + 1)),((wI (1 + y20.1.1)),(y21.1.1,(y22.1.1,(0,()))))) y22 else bif (y2.1.1 == 4) then (fq y2.2.1 (L.of (Ty.zero (.int .i64)) [19,20,21])).bind fun MN=>(bB MN.2.1 5).bind fun y27=>(bB y27.2.1 5).bind fun y28=>(bB y28.2.1 5).bind fun y29=>fJ M6 t1 t2 t8 (MN.1.1,(y27.1.1,(y28.1.1,(0,((wI ((wI (y29.1.1 - (Int.tmod t8 4))) - 1)),()))))) y29 else fJ M6 t1 t2 t8 y1.1.1 y2 else some (.inr (.inl (((),()),(M6,(vd,())))))
noncomputable def ER (x0:jE) (x1 x2:Int):Option KW :=
(aL rV (((),(x1,(x2,((),(0,()))))),(x0,((L.of (Ty.zero (.int .u32)) []),())))).bind fun d37=>match d37 with | .inl xZ=>some ((xZ.2.1,()),(xZ.2.2.1,())) | .inr e=>nomatch e
noncomputable def Xx:E:=⟨361,[],C1 [.pd dw,.v (.int .i64),.v (.int .i64)] [(.sl (.int .u32))] fun x=>ER x.1 x.2.1 x.2.2.1,fh [aeX,qP,xu,aeZ,DF,Qv] [(0,fx ⟨[(0,.bx 100000000 0),(1,.v (.int .i64)),(2,.v (.int .i64)),(7,.ms 12),(8,.v (.int .i64))],[(100000000,.typ dw),(12,.row (.int .u32))]⟩ [(.exit 0,⟨[(7,.ms 12)],[(12,.row (.int .u32)),(100000000,.typ dw)]⟩)] rV)] Tryz.func361⟩
noncomputable def iY (t11:Int) (uC:(L Int)) (t2 t3:Int) (b5:bH) (mE nG lu:Int) (sG:(Int×Unit)) (ais:jE):Option (Qi⊕(((Unit×(Int×YK))×Qf)⊕Empty)) :=
(Cg (mE,(nG,(lu,(0,sG))))).bind fun cO=>bif (decide (0≤t11)&&decide (t11 < (uC.len:Int))) then some (.inl (((),(t2,(t3,((),((),((wI (t11 + 1)),())))))),(ais,(b5,((L.set uC t11.toNat cO.1.1),()))))) else none
noncomputable def rW:(Qi)→Option (Qi⊕(((Unit×(Int×YK))×Qf)⊕Empty)):=fun ⟨⟨_,t2,t3,_,_,t11,_⟩,vd,b5,uC,_⟩ =>
bif (decide (t11 < t3)) then (bB vd 7).bind fun y2=>bif (y2.1.1 == 0) then (fq y2.2.1 (L.of (Ty.zero (.int .i64)) [25,26])).bind fun y3=>(bB y3.2.1 5).bind fun y4=>(bB y4.2.1 5).bind fun y5=>(bB y5.2.1 (wI ((b5.2.2.2.2.2.2.2.2.2.1.len:Int) + 1))).bind fun y6=>iY t11 uC t2 t3 b5 y3.1.1 (wI (1 + y4.1.1)) (wI (1 + y5.1.1)) y6.1 y6.2.1 else bif (y2.1.1 == 1) then (bB y2.2.1 5).bind fun y8=>(bB y8.2.1 5).bind fun y9=>(bB y9.2.1 (wI ((b5.2.2.2.2.2.2.2.2.1.len:Int) + 1))).bind fun wV=>iY t11 uC t2 t3 b5 27 (wI (1 + y8.1.1)) (wI (1 + y9.1.1)) wV.1 wV.2.1 else bif (y2.1.1 == 2) then (fq y2.2.1 (L.of (Ty.zero (.int .i64)) [28,29])).bind fun kY=>(bB kY.2.1 5).bind fun y13=>(bB y13.2.1 8).bind fun ME=>iY t11 uC t2 t3 b5 kY.1.1 (wI (1 + y13.1.1)) 0 ME.1 ME.2.1 else bif (y2.1.1 == 3) then (fq y2.2.1 (L.of (Ty.zero (.int .i64)) [30,31,32,0,0,0,0,0])).bind fun BH=>iY t11 uC t2 t3 b5 BH.1.1 0 0 (0,()) BH.2.1 else some (.inl (((),(t2,(t3,((),((),((wI (t11 + 1)),())))))),(y2.2.1,(b5,(uC,()))))) else some (.inr (.inl (((),(t2,(t3,((),((),()))))),(vd,(b5,(uC,()))))))
noncomputable def ES (x0:jE) (x1:bH) (x2 x3:Int):Option KW :=
bif (decide (0≤x2)&&decide (x2 < (x1.2.2.2.2.2.2.2.1.len:Int))) then bif (decide (1 < ((L.get x1.2.2.2.2.2.2.2.1 x2.toNat).2.2.2.1.len:Int))) then (ER x0 x3 (L.get (L.get x1.2.2.2.2.2.2.2.1 x2.toNat).2.2.2.1 (1:Int).toNat).1).bind fun y1=>((aL rW (((),(x2,(x3,((),((),(0,())))))),(y1.2.1,(x1,y1.1)))).bind fun d27=>match d27 with | .inl mD=>bif (decide (mD.1.2.2.1 > 4)) then (bB mD.2.1 (wI (mD.1.2.2.1 - 1))).bind fun Fa=>(Cg (22,(6,(0,(0,((wI ((wI (0 - Fa.1.1)) - 1)),())))))).bind fun y20=>bif (decide (0≤(wI (mD.1.2.2.1 - 1)))&&decide ((wI (mD.1.2.2.1 - 1)) < (mD.2.2.2.1.len:Int))) then (iG Fa.2.1 2).bind fun y21=>bif y21.1.1 then bif (decide (0≤mD.1.2.1)&&decide (mD.1.2.1 < (mD.2.2.1.2.2.2.2.2.2.2.1.len:Int))) then bif (decide (0 < ((L.get mD.2.2.1.2.2.2.2.2.2.2.1 mD.1.2.1.toNat).2.2.2.1.len:Int))) then (bB y21.2.1 16).bind fun y22=>(Cg (13,(5,(0,(0,((wI ((L.get (L.get mD.2.2.1.2.2.2.2.2.2.2.1 mD.1.2.1.toNat).2.2.2.1 (0:Int).toNat).1 + (wI (4 * y22.1.1)))),())))))).bind fun y23=>(Cg (29,(5,(0,(0,(1,())))))).bind fun y24=>(Cg (29,(5,(0,(0,(0,())))))).bind fun y25=>(Cg (13,(5,(5,(0,(1,())))))).bind fun MN=>bif (decide (0 < ((L.set mD.2.2.2.1 (wI (mD.1.2.2.1 - 1)).toNat y20.1.1).len:Int))) then bif (decide (1 < ((L.set (L.set mD.2.2.2.1 (wI (mD.1.2.2.1 - 1)).toNat y20.1.1) (0:Int).toNat y23.1.1).len:Int))) then bif (decide (2 < ((L.set (L.set (L.set mD.2.2.2.1 (wI (mD.1.2.2.1 - 1)).toNat y20.1.1) (0:Int).toNat y23.1.1) (1:Int).toNat y24.1.1).len:Int))) then bif (decide (3 < ((L.set (L.set (L.set (L.set mD.2.2.2.1 (wI (mD.1.2.2.1 - 1)).toNat y20.1.1) (0:Int).toNat y23.1.1) (1:Int).toNat y24.1.1) (2:Int).toNat MN.1.1).len:Int))) then some (((L.set (L.set (L.set (L.set (L.set mD.2.2.2.1 (wI (mD.1.2.2.1 - 1)).toNat y20.1.1) (0:Int).toNat y23.1.1) (1:Int).toNat y24.1.1) (2:Int).toNat MN.1.1) (3:Int).toNat y25.1.1),()),(y22.2.1,())) else none else none else none else none else none else none else some (((L.set mD.2.2.2.1 (wI (mD.1.2.2.1 - 1)).toNat y20.1.1),()),(y21.2.1,())) else none else some ((mD.2.2.2.1,()),(mD.2.1,())) | .inr e=>nomatch e) else none else none
noncomputable def Xy:E:=⟨295,[],C1 [.pd dw,.v bA,.v (.int .i64),.v (.int .i64)] [(.sl (.int .u32))] fun x=>ES x.1 x.2.1 x.2.2.1 x.2.2.2.1,fh [Xx,qP,xu,aeZ,DF] [(0,fx ⟨[(0,.bx 100000000 0),(2,.v (.int .i64)),(3,.v (.int .i64)),(5,.bx 5 0),(10,.ms 1002368),(11,.v (.int .i64))],[(100000000,.typ dw),(5,.typ bA),(1002368,.row (.int .u32))]⟩ [(.exit 0,⟨[(0,.bx 100000000 0),(2,.v (.int .i64)),(3,.v (.int .i64)),(5,.bx 5 0),(10,.ms 1002368)],[(100000000,.typ dw),(5,.typ bA),(1002368,.row (.int .u32))]⟩)] rW)] Tryz.func295⟩
noncomputable def Qw (x0:Int):Option (((L Int)×Unit)×Unit) :=
some (((L.of (Ty.zero (.int .u8)) [(IntKind.wrap .u8 ((Int.tmod (wI (x0)) 256))),(IntKind.wrap .u8 ((Int.tmod (wI (Int.tdiv (wI (x0)) 256)) 256))),(IntKind.wrap .u8 ((Int.tmod (wI (Int.tdiv (wI (x0)) 65536)) 256))),(IntKind.wrap .u8 ((wI (Int.tdiv (wI (x0)) 16777216))))]),()),())
noncomputable def x8 (x0:Int):(L Int) :=
(L.of (Ty.zero (.int .u8)) [(IntKind.wrap .u8 ((Int.tmod (wI (x0)) 256))),(IntKind.wrap .u8 ((Int.tmod (wI (Int.tdiv (wI (x0)) 256)) 256))),(IntKind.wrap .u8 ((Int.tmod (wI (Int.tdiv (wI (x0)) 65536)) 256))),(IntKind.wrap .u8 ((wI (Int.tdiv (wI (x0)) 16777216))))])
theorem ae0 (x0:Int):Qw x0 = some ((x8 x0,()),()):=by simp only [Qw,x8,bL]
noncomputable def U3:E:=⟨296,[],C1 [.v (.int .u32)] [(.sl (.int .u8))] fun x=>some ((x8 x.1,()),()),jO [] [] (fun x=>Qw x.1) Tryz.func296 fun x=>ae0 x.1⟩
noncomputable def rX:((PZ×TJ))→Option ((PZ×TJ)⊕(P7⊕Empty)):=fun ⟨⟨_,t1,_,t6,_⟩,vd,r7,_⟩ =>
bif (decide (t6 < t1)) then (vR vd).bind fun y1=>bif (decide (r7.len + (L.of (Ty.zero (.int .u32)) [y1.1.1]).len≤most)) then some (.inl (((),(t1,((),((wI (t6 + 1)),())))),(y1.2.1,((L.app r7 (L.of (Ty.zero (.int .u32)) [y1.1.1])),())))) else none else some (.inr (.inl (((),()),(r7,(vd,())))))
noncomputable def kV (x0:jE) (x1:Int):Option KW :=
(aL rX (((),(x1,((),(0,())))),(x0,((L.of (Ty.zero (.int .u32)) []),())))).bind fun d3=>match d3 with | .inl y2=>some ((y2.2.1,()),(y2.2.2.1,())) | .inr e=>nomatch e
noncomputable def Qx:E:=⟨195,[],C1 [.pd dw,.v (.int .i64)] [(.sl (.int .u32))] fun x=>kV x.1 x.2.1,fh [Qv] [(0,fx ⟨[(0,.bx 100000000 0),(1,.v (.int .i64)),(5,.ms 7),(6,.v (.int .i64))],[(100000000,.typ dw),(7,.row (.int .u32))]⟩ [(.exit 0,⟨[(5,.ms 7)],[(7,.row (.int .u32)),(100000000,.typ dw)]⟩)] rX)] Tryz.func195⟩
noncomputable def oh:(((Unit×(Int×(Unit×(Unit×(Int×(Unit×((L Int)×(Int×Unit))))))))×Qg))→Option (((Unit×(Int×(Unit×(Unit×(Int×(Unit×((L Int)×(Int×Unit))))))))×Qg)⊕(((Unit×(Int×(Unit×Ta3)))×Qg)⊕Empty)):=fun ⟨⟨_,t2,_,_,t8,_,t10,t12,_⟩,vd,b4,MP,r25,_⟩ =>
bif (decide (t12 < (t10.len:Int))) then bif (decide (0≤t12)&&decide (t12 < (t10.len:Int))) then bif (decide (r25.len + (x8 (L.get t10 t12.toNat)).len≤most)) then some (.inl (((),(t2,((),((),(t8,((),(t10,((wI (t12 + 1)),())))))))),(vd,(b4,(MP,((L.app r25 (x8 (L.get t10 t12.toNat))),())))))) else none else none else some (.inr (.inl (((),(t2,((),((),(t8,((),())))))),(vd,(b4,(MP,(r25,())))))))
noncomputable def mX (t2 t8:Int) (b4:bH) (MP:(L (L Int))) (iM:KW):Option (Qh⊕(((Unit×Unit)×((L (L Int))×nL))⊕Empty)) :=
(aL oh (((),(t2,((),((),(t8,((),(iM.1.1,(0,())))))))),(iM.2.1,(b4,(MP,((L.of (Ty.zero (.int .u8)) []),())))))).bind fun ait=>match ait with | .inl eZ=>bif (decide (eZ.2.2.2.1.len + (L.of (Ty.zero (.sl (.int .u8))) [eZ.2.2.2.2.1]).len≤most)) then some (.inl (((),(eZ.1.2.1,((),((),((wI (eZ.1.2.2.2.2.1 + 1)),()))))),(eZ.2.1,(eZ.2.2.1,((L.app eZ.2.2.2.1 (L.of (Ty.zero (.sl (.int .u8))) [eZ.2.2.2.2.1])),()))))) else none | .inr e=>nomatch e
noncomputable def rY:(Qh)→Option (Qh⊕(((Unit×Unit)×((L (L Int))×nL))⊕Empty)):=fun ⟨⟨_,t2,_,_,t8,_⟩,vd,b4,MP,_⟩ =>
bif (decide (0≤t2)&&decide (t2 < (b4.2.2.2.2.2.2.2.1.len:Int))) then bif (decide (t8 < ((L.get b4.2.2.2.2.2.2.2.1 t2.toNat).2.2.2.1.len:Int))) then bif (decide (0≤t2)&&decide (t2 < (b4.2.2.2.2.2.2.2.1.len:Int))) then bif (decide (0≤t8)&&decide (t8 < ((L.get b4.2.2.2.2.2.2.2.1 t2.toNat).2.2.2.1.len:Int))) then bif (t8 == 0) then (ES vd b4 t2 (wI (Int.tdiv (L.get (L.get b4.2.2.2.2.2.2.2.1 t2.toNat).2.2.2.1 t8.toNat).2.1 4))).bind fun y1=>mX t2 t8 b4 MP y1 else (kV vd (wI (Int.tdiv (L.get (L.get b4.2.2.2.2.2.2.2.1 t2.toNat).2.2.2.1 t8.toNat).2.1 4))).bind fun y4=>mX t2 t8 b4 MP y4 else none else none else some (.inr (.inl (((),()),(MP,(vd,()))))) else none
noncomputable def ET (x0:jE) (x1:bH) (x2:Int):Option (((L (L Int))×Unit)×nL) :=
(aL rY (((),(x2,((),((),(0,()))))),(x0,(x1,((L.of (Ty.zero (.sl (.int .u8))) []),()))))).bind fun d8=>match d8 with | .inl y7=>some ((y7.2.1,()),(y7.2.2.1,())) | .inr e=>nomatch e
noncomputable def Xz:E:=⟨192,[],C1 [.pd dw,.v bA,.v (.int .i64)] [(.sl (.sl (.int .u8)))] fun x=>ET x.1 x.2.1 x.2.2.1,fh [Xy,U3,Qx] [(0,fx ⟨[(0,.bx 100000000 0),(2,.v (.int .i64)),(4,.bx 4 0),(7,.ms 13),(8,.v (.int .i64))],[(100000000,.typ dw),(4,.typ bA),(13,.row (.sl (.int .u8)))]⟩ [(.exit 0,⟨[(7,.ms 13)],[(13,.row (.sl (.int .u8))),(100000000,.typ dw)]⟩)] rY),(2,fx ⟨[(0,.bx 100000000 0),(2,.v (.int .i64)),(4,.bx 4 0),(7,.ms 13),(8,.v (.int .i64)),(9,.ms 25),(10,.row (.int .u32) 50010),(12,.v (.int .i64))],[(100000000,.typ dw),(4,.typ bA),(13,.row (.sl (.int .u8))),(25,.row (.int .u8))]⟩ [(.exit 2,⟨[(0,.bx 100000000 0),(2,.v (.int .i64)),(4,.bx 4 0),(7,.ms 13),(8,.v (.int .i64)),(9,.ms 25)],[(100000000,.typ dw),(4,.typ bA),(13,.row (.sl (.int .u8))),(25,.row (.int .u8))]⟩)] oh)] Tryz.func192⟩
noncomputable def iH:((Tc×((L (L Int))×Unit)))→Option ((Tc×((L (L Int))×Unit))⊕(((Unit×Unit)×((L (L Int))×Unit))⊕Empty)):=fun ⟨⟨t0,_,t4,_⟩,r5,_⟩ =>
bif (decide (t4 < (t0.len:Int))) then bif (decide (0≤t4)&&decide (t4 < (t0.len:Int))) then bif (decide ((L.of (Ty.zero (.int .u8)) []).len + (L.get t0 t4.toNat).len≤most)) then bif (decide (r5.len + (L.of (Ty.zero (.sl (.int .u8))) [(L.app (L.of (Ty.zero (.int .u8)) []) (L.get t0 t4.toNat))]).len≤most)) then some (.inl ((t0,((),((wI (t4 + 1)),()))),((L.app r5 (L.of (Ty.zero (.sl (.int .u8))) [(L.app (L.of (Ty.zero (.int .u8)) []) (L.get t0 t4.toNat))])),()))) else none else none else none else some (.inr (.inl (((),()),(r5,()))))
noncomputable def vC (x0:(L (L Int))):Option (((L (L Int))×Unit)×Unit) :=
(aL iH ((x0,((),(0,()))),((L.of (Ty.zero (.sl (.int .u8))) []),()))).bind fun d2=>match d2 with | .inl y1=>some ((y1.2.1,()),()) | .inr e=>nomatch e
noncomputable def KO:E:=⟨130,[],C1 [.v (.sl (.sl (.int .u8)))] [(.sl (.sl (.int .u8)))] fun x=>vC x.1,fh [] [(0,fx ⟨[(0,.v (.sl (.sl (.int .u8)))),(3,.ms 5),(4,.v (.int .i64))],[(5,.row (.sl (.int .u8)))]⟩ [(.exit 0,⟨[(3,.ms 5)],[(5,.row (.sl (.int .u8)))]⟩)] iH)] Tryz.func130⟩
noncomputable def oq:((UL×(BU×(((L Int)×(Int×(Unit×Unit)))×((L (L Int))×Unit)))))→Option ((UL×(BU×(((L Int)×(Int×(Unit×Unit)))×((L (L Int))×Unit))))⊕(OT⊕Empty)):=fun ⟨⟨_,_,t8,_⟩,_,⟨wK,uF,_⟩,wc,_⟩ =>
bif (decide (t8 < 16)) then bif (decide (wK.len + (L.of (Ty.zero (.int .u32)) [0]).len≤most)) then some (.inl (((),((),((wI (t8 + 1)),()))),(((),((),((),()))),(((L.app wK (L.of (Ty.zero (.int .u32)) [0])),(uF,((),()))),(wc,()))))) else none else some (.inr (.inl (((),((),())),(((),((),((),()))),(((),(uF,((),()))),(wK,(wc,())))))))
noncomputable def Hf (x0:bH) (x1:Int) (x2:(L (L Int))):Option Gj :=
bif (decide (0≤x1)&&decide (x1 < (x0.2.2.2.2.2.2.2.1.len:Int))) then (vC x2).bind fun y1=>((aL oq (((),((),(0,()))),(((),((),((),()))),(((bG (.int .u32)),((IntKind.wrap .u32 ((L.get x0.2.2.2.2.2.2.2.1 x1.toNat).2.1)),((),()))),y1.1)))).bind fun d3=>match d3 with | .inl y2=>some (((y2.2.2.2.1,(y2.2.2.1.2.1,y2.2.2.2.2)),()),()) | .inr e=>nomatch e) else none
noncomputable def U4:E:=⟨226,[],C1 [.v bA,.v (.int .i64),.v (.sl (.sl (.int .u8)))] [gV] fun x=>Hf x.1 x.2.1 x.2.2.1,fh [KO] [(0,fx ⟨[(6,.bx 6 0),(7,.bx 7 0),(8,.v (.int .i64))],[(6,.cells [.any,.any,.any]),(7,.cells [.row (.int .u32) 60448,.v (.int .u32),.ms 1001088]),(1001088,.row (.sl (.int .u8)))]⟩ [(.exit 0,⟨[(6,.bx 6 0),(7,.bx 7 0)],[(6,.cells [.any,.any,.any]),(7,.cells [.ms 60448,.v (.int .u32),.ms 1001088]),(60448,.row (.int .u32)),(1001088,.row (.sl (.int .u8)))]⟩)] oq)] Tryz.func226⟩
noncomputable def og:((vD×((Int×(Int×(Int×Unit)))×Dk)))→Option ((vD×((Int×(Int×(Int×Unit)))×Dk))⊕(((Unit×(Unit×Unit))×OV)⊕Empty)):=fun ⟨⟨_,_,_,t4,_⟩,b1,_,⟨wS,wU,wZ,wL,_⟩,_⟩ =>
bif (decide (t4 < b1.1)) then bif (decide (wL.len + (L.of (Ty.zero bS) [(L.of (Ty.zero jc) [])]).len≤most)) then some (.inl (((),((),((),((wI (t4 + 1)),())))),(b1,(((),((),((),((),())))),((wS,(wU,(wZ,((L.app wL (L.of (Ty.zero bS) [(L.of (Ty.zero jc) [])])),())))),()))))) else none else some (.inr (.inl (((),((),())),(((),((),((),((),())))),((wS,(wU,(wZ,((),())))),(wL,()))))))
noncomputable def Dx (x0:(Int×(Int×(Int×Unit)))):Option (qz×Unit) :=
bif (!(f237 x0)) then some ((((0,(0,(0,()))),((bG bS),())),()),()) else (aL og (((),((),((),(0,())))),(x0,(((),((),((),((),())))),((x0.1,(x0.2.1,(x0.2.2.1,((bG bS),())))),()))))).bind fun d2=>match d2 with | .inl y1=>some ((((y1.2.2.1.1,(y1.2.2.1.2.1,(y1.2.2.1.2.2.1,()))),y1.2.2.2),()),()) | .inr e=>nomatch e
noncomputable def U5:E:=⟨227,[],C1 [.v bI] [iE] fun x=>Dx x.1,fh [SX] [(0,fx ⟨[(1,.bx 1 0),(2,.bx 2 0),(3,.bx 3 0),(4,.v (.int .i64))],[(1,.typ bI),(2,.cells [.any,.any,.any,.any]),(3,.cells [.v (.int .i64),.v (.int .i64),.v (.int .i64),.row bS 60195])]⟩ [(.exit 0,⟨[(2,.bx 2 0),(3,.bx 3 0)],[(2,.cells [.any,.any,.any,.any]),(3,.cells [.v (.int .i64),.v (.int .i64),.v (.int .i64),.ms 60195]),(60195,.row bS)]⟩)] og)] Tryz.func227⟩
noncomputable def Qy (x0:Int):Option (Ey×Unit) :=
bif (!(f42 x0 1 8)) then some (((0,((bG (.int .i64)),())),()),()) else some (((x0,((bG (.int .i64)),())),()),())
noncomputable def vS (x0:Int):(Int×((L Int)×Unit)) :=
bif (!(f42 x0 1 8)) then (0,((bG (.int .i64)),())) else (x0,((bG (.int .i64)),()))
theorem ae1 (x0:Int):Qy x0 = some ((vS x0,()),()):=by simp only [Qy,vS,bL]
noncomputable def U6:E:=⟨228,[],C1 [.v (.int .i64)] [qA] fun x=>some ((vS x.1,()),()),jO [w9] [] (fun x=>Qy x.1) Tryz.func228 fun x=>ae1 x.1⟩
noncomputable def qQ:((vD×(bH×(lS×(xM×xO)))))→Option ((vD×(bH×(lS×(xM×xO))))⊕((BU×Qm)⊕Empty)):=fun ⟨⟨_,_,_,t8,_⟩,b3,_,⟨_,uF,_,wd,we,wf,wg,wh,wi,wj,wk,wl,wm,wn,wo,wp,wq,wr,_,ws,_,wt,wu,_,wM,wN,w0,_⟩,wv,ww,wx,wy,wz,_⟩ =>
bif (decide (t8 < (b3.2.2.2.2.2.2.2.2.2.1.len:Int))) then bif (decide (wM.len + (L.of (Ty.zero bN) [(0,((bG (.int .u32)),()))]).len≤most)) then bif (decide (wN.len + (L.of (Ty.zero eu) [((bG (.int .u32)),())]).len≤most)) then some (.inl (((),((),((),((wI (t8 + 1)),())))),(b3,(((),((),((),((),((),((),((),((),((),((),((),((),((),((),((),((),((),((),((),((),((),((),((),((),((),((),((),()))))))))))))))))))))))))))),(((),(uF,((),(wd,(we,(wf,(wg,(wh,(wi,(wj,(wk,(wl,(wm,(wn,(wo,(wp,(wq,(wr,((),(ws,((),(wt,(wu,((),((L.app wM (L.of (Ty.zero bN) [(0,((bG (.int .u32)),()))])),((L.app wN (L.of (Ty.zero eu) [((bG (.int .u32)),())])),(w0,()))))))))))))))))))))))))))),(wv,(ww,(wx,(wy,(wz,())))))))))) else none else none else some (.inr (.inl (((),((),((),()))),(b3,(((),((),((),((),((),((),((),((),((),((),((),((),((),((),((),((),((),((),((),((),((),((),((),((),((),((),((),()))))))))))))))))))))))))))),(((),(uF,((),(wd,(we,(wf,(wg,(wh,(wi,(wj,(wk,(wl,(wm,(wn,(wo,(wp,(wq,(wr,((),(ws,((),(wt,(wu,((),((),((),((),()))))))))))))))))))))))))))),(wv,(ww,(wx,(wy,(wz,(wM,(wN,(w0,()))))))))))))))
noncomputable def oz:((vD×Qm))→Option ((vD×Qm)⊕(((Unit×(Unit×Unit))×GA)⊕Empty)):=fun ⟨⟨_,_,_,t9,_⟩,b3,_,⟨_,uF,_,wd,we,wf,wg,wh,wi,wj,wk,wl,wm,wn,wo,wp,wq,wr,_,ws,_,wt,wu,_⟩,wv,ww,wx,wy,wz,w5,w6,wO,_⟩ =>
bif (decide (t9 < (b3.2.2.2.2.2.2.2.2.1.len:Int))) then bif (decide (wO.len + (L.of (Ty.zero bQ) [((bG (.int .u32)),((bG (.int .u32)),()))]).len≤most)) then some (.inl (((),((),((),((wI (t9 + 1)),())))),(b3,(((),((),((),((),((),((),((),((),((),((),((),((),((),((),((),((),((),((),((),((),((),((),((),((),((),((),((),()))))))))))))))))))))))))))),(((),(uF,((),(wd,(we,(wf,(wg,(wh,(wi,(wj,(wk,(wl,(wm,(wn,(wo,(wp,(wq,(wr,((),(ws,((),(wt,(wu,((),((),((),((),()))))))))))))))))))))))))))),(wv,(ww,(wx,(wy,(wz,(w5,(w6,((L.app wO (L.of (Ty.zero bQ) [((bG (.int .u32)),((bG (.int .u32)),()))])),()))))))))))))) else none else some (.inr (.inl (((),((),())),(((),((),((),((),((),((),((),((),((),((),((),((),((),((),((),((),((),((),((),((),((),((),((),((),((),((),((),()))))))))))))))))))))))))))),(((),(uF,((),(wd,(we,(wf,(wg,(wh,(wi,(wj,(wk,(wl,(wm,(wn,(wo,(wp,(wq,(wr,((),(ws,((),(wt,(wu,((),((),((),((),()))))))))))))))))))))))))))),(wv,(ww,(wx,(wy,(wz,(w5,(w6,(wO,())))))))))))))
noncomputable def K5 (x0:bH) (x1:Int) (x2:(L (L Int))):Option OX :=
(Hf x0 x1 x2).bind fun y1=>(Dx x0.2.1).bind fun y2=>(vC x2).bind fun y3=>(aL qQ (((),((),((),(0,())))),(x0,(((),((),((),((),((),((),((),((),((),((),((),((),((),((),((),((),((),((),((),((),((),((),((),((),((),((),((),()))))))))))))))))))))))))))),(((),(y1.1.1.2.1,((),(false,(0,(0,(0,(0,(false,(false,(0,(0,(0,(0,(false,(y2.1.1.1.1,(y2.1.1.1.2.1,(y2.1.1.1.2.2.1,((),((vS x0.2.2.1).1,((),(0,(true,((),((bG bN),((bG eu),((bG bQ),()))))))))))))))))))))))))))),(y1.1.1.1,(y1.1.1.2.2.1,(y2.1.1.2.1,((vS x0.2.2.1).2.1,y3.1))))))))).bind fun d7=>match d7 with | .inl y4=>((aL oz (((),((),((),(0,())))),y4.2)).bind fun d6=>match d6 with | .inl y5=>some ((((y5.2.2.2.1,(y5.2.2.1.2.1,(y5.2.2.2.2.1,()))),((y5.2.2.1.2.2.2.1,(y5.2.2.1.2.2.2.2.1,(y5.2.2.1.2.2.2.2.2.1,(y5.2.2.1.2.2.2.2.2.2.1,(y5.2.2.1.2.2.2.2.2.2.2.1,(y5.2.2.1.2.2.2.2.2.2.2.2.1,(y5.2.2.1.2.2.2.2.2.2.2.2.2.1,(y5.2.2.1.2.2.2.2.2.2.2.2.2.2.1,())))))))),((y5.2.2.1.2.2.2.2.2.2.2.2.2.2.2.1,(y5.2.2.1.2.2.2.2.2.2.2.2.2.2.2.2.1,(y5.2.2.1.2.2.2.2.2.2.2.2.2.2.2.2.2.1,(y5.2.2.1.2.2.2.2.2.2.2.2.2.2.2.2.2.2.1,())))),(((y5.2.2.1.2.2.2.2.2.2.2.2.2.2.2.2.2.2.2.1,(y5.2.2.1.2.2.2.2.2.2.2.2.2.2.2.2.2.2.2.2.1,(y5.2.2.1.2.2.2.2.2.2.2.2.2.2.2.2.2.2.2.2.2.1,()))),(y5.2.2.2.2.2.1,())),((y5.2.2.1.2.2.2.2.2.2.2.2.2.2.2.2.2.2.2.2.2.2.2.1,(y5.2.2.2.2.2.2.1,())),(y5.2.2.1.2.2.2.2.2.2.2.2.2.2.2.2.2.2.2.2.2.2.2.2.2.1,(y5.2.2.1.2.2.2.2.2.2.2.2.2.2.2.2.2.2.2.2.2.2.2.2.2.2.1,y5.2.2.2.2.2.2.2))))))),()),()) | .inr e=>nomatch e) | .inr e=>nomatch e
noncomputable def ae2:E:=⟨114,[],C1 [.v bA,.v (.int .i64),.v (.sl (.sl (.int .u8)))] [cZ] fun x=>K5 x.1 x.2.1 x.2.2.1,fh [U4,U5,U6,KO] [(0,fx ⟨[(3,.bx 3 0),(6,.bx 6 0),(7,.bx 7 0),(8,.v (.int .i64))],[(3,.typ bA),(6,.cells [.any,.any,.any,.any,.any,.any,.any,.any,.any,.any,.any,.any,.any,.any,.any,.any,.any,.any,.any,.any,.any,.any,.any,.any,.any,.any,.any]),(7,.cells [.ms 1000832,.v (.int .u32),.ms 1000833,.v .bool,.v (.int .u32),.v (.int .u32),.v (.int .u32),.v (.int .u32),.v .bool,.v .bool,.v (.int .u32),.v (.int .i64),.v (.int .i64),.v (.int .i64),.v .bool,.v (.int .i64),.v (.int .i64),.v (.int .i64),.ms 1001024,.v (.int .i64),.ms 1001216,.v (.int .i64),.v .bool,.ms 1001344,.row bN 60472,.row eu 60473,.row bQ 60474]),(1000832,.row (.int .u32)),(1000833,.row (.sl (.int .u8))),(1001024,.row bS),(1001216,.row (.int .i64)),(1001344,.row (.sl (.int .u8)))]⟩ [(.exit 0,⟨[(3,.bx 3 0),(6,.bx 6 0),(7,.bx 7 0)],[(3,.typ bA),(6,.cells [.any,.any,.any,.any,.any,.any,.any,.any,.any,.any,.any,.any,.any,.any,.any,.any,.any,.any,.any,.any,.any,.any,.any,.any,.any,.any,.any]),(7,.cells [.ms 1000832,.v (.int .u32),.ms 1000833,.v .bool,.v (.int .u32),.v (.int .u32),.v (.int .u32),.v (.int .u32),.v .bool,.v .bool,.v (.int .u32),.v (.int .i64),.v (.int .i64),.v (.int .i64),.v .bool,.v (.int .i64),.v (.int .i64),.v (.int .i64),.ms 1001024,.v (.int .i64),.ms 1001216,.v (.int .i64),.v .bool,.ms 1001344,.ms 60472,.ms 60473,.ms 60474]),(1000832,.row (.int .u32)),(1000833,.row (.sl (.int .u8))),(1001024,.row bS),(1001216,.row (.int .i64)),(1001344,.row (.sl (.int .u8))),(60472,.row bN),(60473,.row eu),(60474,.row bQ)]⟩)] qQ),(2,fx ⟨[(3,.bx 3 0),(6,.bx 6 0),(7,.bx 7 0),(9,.v (.int .i64))],[(3,.typ bA),(6,.cells [.any,.any,.any,.any,.any,.any,.any,.any,.any,.any,.any,.any,.any,.any,.any,.any,.any,.any,.any,.any,.any,.any,.any,.any,.any,.any,.any]),(7,.cells [.ms 1000832,.v (.int .u32),.ms 1000833,.v .bool,.v (.int .u32),.v (.int .u32),.v (.int .u32),.v (.int .u32),.v .bool,.v .bool,.v (.int .u32),.v (.int .i64),.v (.int .i64),.v (.int .i64),.v .bool,.v (.int .i64),.v (.int .i64),.v (.int .i64),.ms 1001024,.v (.int .i64),.ms 1001216,.v (.int .i64),.v .bool,.ms 1001344,.ms 60472,.ms 60473,.ms 60474]),(1000832,.row (.int .u32)),(1000833,.row (.sl (.int .u8))),(1001024,.row bS),(1001216,.row (.int .i64)),(1001344,.row (.sl (.int .u8))),(60472,.row bN),(60473,.row eu),(60474,.row bQ)]⟩ [(.exit 2,⟨[(6,.bx 6 0),(7,.bx 7 0)],[(6,.cells [.any,.any,.any,.any,.any,.any,.any,.any,.any,.any,.any,.any,.any,.any,.any,.any,.any,.any,.any,.any,.any,.any,.any,.any,.any,.any,.any]),(7,.cells [.ms 1000832,.v (.int .u32),.ms 1000833,.v .bool,.v (.int .u32),.v (.int .u32),.v (.int .u32),.v (.int .u32),.v .bool,.v .bool,.v (.int .u32),.v (.int .i64),.v (.int .i64),.v (.int .i64),.v .bool,.v (.int .i64),.v (.int .i64),.v (.int .i64),.ms 1001024,.v (.int .i64),.ms 1001216,.v (.int .i64),.v .bool,.ms 1001344,.ms 60472,.ms 60473,.ms 60474]),(1000832,.row (.int .u32)),(1000833,.row (.sl (.int .u8))),(1001024,.row bS),(1001216,.row (.int .i64)),(1001344,.row (.sl (.int .u8))),(60472,.row bN),(60473,.row eu),(60474,.row bQ)]⟩)] oz)] Tryz.func114⟩
noncomputable def XA (x0:H6):Option ((Bool×Unit)×Unit) :=
bif (decide ((x0.1.len:Int)≤8)) then some (((decide ((x0.2.1.len:Int)≤8)),()),()) else some ((false,()),())
noncomputable def f240 (x0:H6):Bool :=
bif (decide ((x0.1.len:Int)≤8)) then (decide ((x0.2.1.len:Int)≤8)) else false
theorem n240 (x0:H6):XA x0 = some ((f240 x0,()),()):=by simp only [XA,f240,bL]
noncomputable def WY:E:=⟨240,[],C [.v bQ] [.bool] fun x=>some ((f240 x.1,()),()),jO [] [] (fun x=>XA x.1) Tryz.func240 fun x=>n240 x.1⟩
noncomputable def lX (x0:(L Int)):Option (((L Int)×Unit)×Unit) :=
bif (decide ((L.of (Ty.zero (.int .u32)) []).len + x0.len≤most)) then some (((L.app (L.of (Ty.zero (.int .u32)) []) x0),()),()) else none
noncomputable def Dt:E:=⟨131,[],C1 [.v (.sl (.int .u32))] [(.sl (.int .u32))] fun x=>lX x.1,fh [] [] Tryz.func131⟩
noncomputable def xU (x0:H6):Option (Wz×Unit) :=
(lX x0.1).bind fun y1=>(lX x0.2.1).bind fun y2=>some (((y1.1.1,y2.1),()),())
noncomputable def Pv:E:=⟨132,[],C1 [.v bQ] [bQ] fun x=>xU x.1,fh [Dt] [] Tryz.func132⟩
noncomputable def qR:((Xh×((Unit×(Unit×Unit))×(((L Int)×(Unit×Unit))×((L Int)×Unit)))))→Option ((Xh×((Unit×(Unit×Unit))×(((L Int)×(Unit×Unit))×((L Int)×Unit))))⊕((Xh×((Unit×(Unit×Unit))×((Unit×(Unit×Unit))×H6)))⊕Empty)):=fun ⟨⟨_,_,t5,_⟩,_,⟨uw,_⟩,wA,_⟩ =>
bif (decide ((wA.len:Int) < 8)) then bif (decide ((uw.len:Int) > 0)) then bif (decide (0 < (uw.len:Int))) then bif (decide (wA.len + (L.of (Ty.zero (.int .u32)) [(L.get uw (0:Int).toNat)]).len≤most)) then bif (decide (0≤1)&&(decide (1≤(uw.len:Int))&&decide ((uw.len:Int)≤(uw.len:Int)))) then (lX (L.cut uw (1:Int).toNat (uw.len:Int).toNat)).bind fun y2=>some (.inl (((),((),(true,()))),(((),((),())),((y2.1.1,((),())),((L.app wA (L.of (Ty.zero (.int .u32)) [(L.get uw (0:Int).toNat)])),()))))) else none else none else none else some (.inr (.inl (((),((),(t5,()))),(((),((),())),(((),((),())),(uw,(wA,()))))))) else some (.inr (.inl (((),((),(t5,()))),(((),((),())),(((),((),())),(uw,(wA,())))))))
noncomputable def K6 (x0:H6):Option ((H6×(Bool×Unit))×Unit) :=
bif (!(f240 x0)) then some ((((bG (.int .u32)),((bG (.int .u32)),())),false,()),()) else (xU x0).bind fun y1=>(aL qR (((),((),(false,()))),(((),((),())),((y1.1.1.1,((),())),y1.1.1.2)))).bind fun d4=>match d4 with | .inl y3=>some ((y3.2.2.2,y3.1.2.2.1,()),()) | .inr e=>nomatch e
noncomputable def ae3:E:=⟨297,[],C1 [.v bQ] [bQ,.bool] fun x=>K6 x.1,fh [WY,Pv,Dt] [(0,fx ⟨[(2,.bx 2 0),(4,.bx 4 0),(5,.v .bool)],[(2,.cells [.any,.any]),(4,.cells [.row (.int .u32) 60256,.ms 1000705]),(1000705,.row (.int .u32))]⟩ [(.exit 0,⟨[(2,.bx 2 0),(4,.bx 4 0),(5,.v .bool)],[(2,.cells [.any,.any]),(4,.cells [.ms 60256,.ms 1000705]),(60256,.row (.int .u32)),(1000705,.row (.int .u32))]⟩)] qR)] Tryz.func297⟩
noncomputable def Hg (x0 x1:Int):Option ((Int×Unit)×Unit) :=
bif (decide (0≤(IntKind.wrap .u64 (x1)))) then some (((bP .i64 (wI ((dz .u32 x0 (IntKind.wrap .u64 (x1))))) 1),()),()) else none
noncomputable def TQ:E:=⟨242,[],C [.v (.int .u32),.v (.int .i64)] [(.int .i64)] fun x=>Hg x.1 x.2.1,fh [] [] Tryz.func242⟩
noncomputable def TR (x0:iU) (x1:Int):Option (GY×Unit) :=
bif (f42 x1 0 31) then (Hg x0.2.2.2.2.2.2.2.1 x1).bind fun y1=>bif (y1.1.1 == 0) then bif (decide (0≤(IntKind.wrap .u64 (x1)))) then some (((x0.1,(x0.2.1,(x0.2.2.1,(x0.2.2.2.1,(x0.2.2.2.2.1,(x0.2.2.2.2.2.1,(x0.2.2.2.2.2.2.1,((IntKind.wrap .u32 (x0.2.2.2.2.2.2.2.1 + (kW .u32 1 (IntKind.wrap .u64 (x1))))),())))))))),()),()) else none else some ((x0,()),()) else some ((x0,()),())
noncomputable def aiu:E:=⟨298,[],C [.v iF,.v (.int .i64)] [iF] fun x=>TR x.1 x.2.1,fh [w9,TQ] [] Tryz.func298⟩
noncomputable def qU:((PY×(KP×(bH×Qc))))→Option ((PY×(KP×(bH×Qc)))⊕(O4⊕Empty)):=fun ⟨⟨t1,_,_,t8,_⟩,⟨_,uG,_,uH,uI,uJ,uK,uN,uO,uP,uQ,uR,uS,uT,uE,uU,uV,uW,_,uX,_,uY,u4,_⟩,b4,wB,wC,u5,wD,u6,uA,u7,uu,_⟩ =>
bif (decide (t8 < (b4.2.2.2.2.2.2.2.2.1.len:Int))) then bif (!uE) then bif (decide (0≤t8)&&decide (t8 < (b4.2.2.2.2.2.2.2.2.1.len:Int))) then bif ((L.get b4.2.2.2.2.2.2.2.2.1 t8.toNat) == t1) then bif (decide (0≤t8)&&decide (t8 < (uu.len:Int))) then (K6 ((L.get uu t8.toNat).1,((L.get uu t8.toNat).2.1,()))).bind fun y2=>bif (decide (0≤t8)&&decide (t8 < (uu.len:Int))) then bif y2.1.2.1 then (TR (uH,(uI,(uJ,(uK,(uN,(uO,(uP,(uQ,())))))))) t8).bind fun y3=>some (.inl ((t1,((),((),((wI (t8 + 1)),())))),(((),(uG,((),(y3.1.1.1,(y3.1.1.2.1,(y3.1.1.2.2.1,(y3.1.1.2.2.2.1,(y3.1.1.2.2.2.2.1,(y3.1.1.2.2.2.2.2.1,(y3.1.1.2.2.2.2.2.2.1,(y3.1.1.2.2.2.2.2.2.2.1,(uR,(uS,(uT,(uE,(uU,(uV,(uW,((),(uX,((),(uY,(u4,((),((),((),((),()))))))))))))))))))))))))))),(b4,(wB,(wC,(u5,(wD,(u6,(uA,(u7,((L.set uu t8.toNat y2.1.1),())))))))))))) else some (.inl ((t1,((),((),((wI (t8 + 1)),())))),(((),(uG,((),(uH,(uI,(uJ,(uK,(uN,(uO,(uP,(uQ,(uR,(uS,(uT,(uE,(uU,(uV,(uW,((),(uX,((),(uY,(u4,((),((),((),((),()))))))))))))))))))))))))))),(b4,(wB,(wC,(u5,(wD,(u6,(uA,(u7,((L.set uu t8.toNat y2.1.1),())))))))))))) else none else none else some (.inl ((t1,((),((),((wI (t8 + 1)),())))),(((),(uG,((),(uH,(uI,(uJ,(uK,(uN,(uO,(uP,(uQ,(uR,(uS,(uT,(uE,(uU,(uV,(uW,((),(uX,((),(uY,(u4,((),((),((),((),()))))))))))))))))))))))))))),(b4,(wB,(wC,(u5,(wD,(u6,(uA,(u7,(uu,())))))))))))) else none else some (.inr (.inl ((),(((),(uG,((),(uH,(uI,(uJ,(uK,(uN,(uO,(uP,(uQ,(uR,(uS,(uT,(uE,(uU,(uV,(uW,((),(uX,((),(uY,(u4,((),((),((),((),()))))))))))))))))))))))))))),(wB,(wC,(u5,(wD,(u6,(uA,(u7,(uu,())))))))))))) else some (.inr (.inl ((),(((),(uG,((),(uH,(uI,(uJ,(uK,(uN,(uO,(uP,(uQ,(uR,(uS,(uT,(uE,(uU,(uV,(uW,((),(uX,((),(uY,(u4,((),((),((),((),()))))))))))))))))))))))))))),(wB,(wC,(u5,(wD,(u6,(uA,(u7,(uu,()))))))))))))
noncomputable def K7 (x0:bH) (x1:Int) (x2:bU) (x3:Int):Option O5 :=
(Dx x0.2.1).bind fun y1=>(aL qU ((x1,((),((),(0,())))),(((),(x2.1.2.1,((),(x2.2.1.1,(x2.2.1.2.1,(x2.2.1.2.2.1,(x2.2.1.2.2.2.1,(x2.2.1.2.2.2.2.1,(x2.2.1.2.2.2.2.2.1,(x2.2.1.2.2.2.2.2.2.1,(x2.2.1.2.2.2.2.2.2.2.1,(x2.2.2.1.1,(x2.2.2.1.2.1,(x2.2.2.1.2.2.1,(x2.2.2.1.2.2.2.1,(y1.1.1.1.1,(y1.1.1.1.2.1,(y1.1.1.1.2.2.1,((),((vS x0.2.2.1).1,((),((wI (x3 + x0.2.2.2.2.1)),(false,((),((),((),((),()))))))))))))))))))))))))))),(x0,(x2.1.1,(x2.1.2.2.1,(y1.1.1.2.1,((vS x0.2.2.1).2.1,x2.2.2.2.2.2.2.2)))))))).bind fun d5=>match d5 with | .inl y4=>some ((),(((y4.2.2.1,(y4.2.1.2.1,(y4.2.2.2.1,()))),((y4.2.1.2.2.2.1,(y4.2.1.2.2.2.2.1,(y4.2.1.2.2.2.2.2.1,(y4.2.1.2.2.2.2.2.2.1,(y4.2.1.2.2.2.2.2.2.2.1,(y4.2.1.2.2.2.2.2.2.2.2.1,(y4.2.1.2.2.2.2.2.2.2.2.2.1,(y4.2.1.2.2.2.2.2.2.2.2.2.2.1,())))))))),((y4.2.1.2.2.2.2.2.2.2.2.2.2.2.1,(y4.2.1.2.2.2.2.2.2.2.2.2.2.2.2.1,(y4.2.1.2.2.2.2.2.2.2.2.2.2.2.2.2.1,(y4.2.1.2.2.2.2.2.2.2.2.2.2.2.2.2.2.1,())))),(((y4.2.1.2.2.2.2.2.2.2.2.2.2.2.2.2.2.2.1,(y4.2.1.2.2.2.2.2.2.2.2.2.2.2.2.2.2.2.2.1,(y4.2.1.2.2.2.2.2.2.2.2.2.2.2.2.2.2.2.2.2.1,()))),(y4.2.2.2.2.1,())),((y4.2.1.2.2.2.2.2.2.2.2.2.2.2.2.2.2.2.2.2.2.2.1,(y4.2.2.2.2.2.1,())),(y4.2.1.2.2.2.2.2.2.2.2.2.2.2.2.2.2.2.2.2.2.2.2.2.1,(y4.2.1.2.2.2.2.2.2.2.2.2.2.2.2.2.2.2.2.2.2.2.2.2.2.1,y4.2.2.2.2.2.2))))))),())) | .inr e=>nomatch e
noncomputable def ae4:E:=⟨193,[],C [.v bA,.v (.int .i64),.pt cZ,.v (.int .i64)] [] fun x=>K7 x.1 x.2.1 x.2.2.1 x.2.2.2.1,fh [U5,U6,ae3,aiu] [(0,fx ⟨[(1,.v (.int .i64)),(2,.bx 100000128 0),(4,.bx 4 0),(8,.v (.int .i64))],[(100000128,.cells [.ms 100000129,.v (.int .u32),.ms 100000130,.v .bool,.v (.int .u32),.v (.int .u32),.v (.int .u32),.v (.int .u32),.v .bool,.v .bool,.v (.int .u32),.v (.int .i64),.v (.int .i64),.v (.int .i64),.v .bool,.v (.int .i64),.v (.int .i64),.v (.int .i64),.ms 1000896,.v (.int .i64),.ms 1001280,.v (.int .i64),.v .bool,.ms 100000133,.ms 100000134,.ms 100000135,.ms 100000136]),(4,.typ bA),(100000129,.row (.int .u32)),(100000130,.row (.sl (.int .u8))),(1000896,.row bS),(1001280,.row (.int .i64)),(100000133,.row (.sl (.int .u8))),(100000134,.row bN),(100000135,.row eu),(100000136,.row bQ)]⟩ [(.exit 0,⟨[],[(100000128,.cells [.ms 100000129,.v (.int .u32),.ms 100000130,.v .bool,.v (.int .u32),.v (.int .u32),.v (.int .u32),.v (.int .u32),.v .bool,.v .bool,.v (.int .u32),.v (.int .i64),.v (.int .i64),.v (.int .i64),.v .bool,.v (.int .i64),.v (.int .i64),.v (.int .i64),.ms 1000896,.v (.int .i64),.ms 1001280,.v (.int .i64),.v .bool,.ms 100000133,.ms 100000134,.ms 100000135,.ms 100000136]),(100000129,.row (.int .u32)),(100000130,.row (.sl (.int .u8))),(1000896,.row bS),(1001280,.row (.int .i64)),(100000133,.row (.sl (.int .u8))),(100000134,.row bN),(100000135,.row eu),(100000136,.row bQ)]⟩)] qU)] Tryz.func193⟩
noncomputable def XB (x0:(L Int)) (x1:Int):Option ((Int×Unit)×Unit) :=
bif (decide ((wI (2 + (wI (Int.tdiv (x0.len:Int) 20)))) > x1)) then some ((x1,()),()) else some (((wI (2 + (wI (Int.tdiv (x0.len:Int) 20)))),()),())
noncomputable def f196 (x0:(L Int)) (x1:Int):Int :=
bif (decide ((wI (2 + (wI (Int.tdiv (x0.len:Int) 20)))) > x1)) then x1 else (wI (2 + (wI (Int.tdiv (x0.len:Int) 20))))
theorem n196 (x0:(L Int)) (x1:Int):XB x0 x1 = some ((f196 x0 x1,()),()):=by simp only [XB,f196,bL]
noncomputable def aiv:E:=⟨196,[],C [.v (.sl (.int .u8)),.v (.int .i64)] [(.int .i64)] fun x=>some ((f196 x.1 x.2.1,()),()),jO [] [] (fun x=>XB x.1 x.2.1) Tryz.func196 fun x=>n196 x.1 x.2.1⟩
noncomputable def rZ:(((Unit×(Int×Unit))×GY))→Option (((Unit×(Int×Unit))×GY)⊕(((Int×Unit)×Unit)⊕((Unit×Unit)⊕Empty))):=fun ⟨⟨_,t5,_⟩,b2,_⟩ =>
bif (decide (t5 < 32)) then (Hg b2.2.2.2.2.2.2.2.1 t5).bind fun y2=>bif (y2.1.1 == 1) then some (.inr (.inl (((wI (2 + t5)),()),()))) else some (.inl (((),((wI (t5 + 1)),())),(b2,()))) else some (.inr (.inr (.inl ((),()))))
noncomputable def TS (x0:iU) (x1:Int):Option ((Int×Unit)×Unit) :=
bif (!x0.1) then some ((0,()),()) else bif x0.2.2.2.2.2.2.1 then some ((0,()),()) else bif x0.2.2.2.2.2.1 then (MO x1 4294967296).bind fun y1=>bif (decide (y1.1.1 ≥ (wI (x0.2.2.2.2.1)))) then some ((1,()),()) else ((aL rZ (((),(0,())),(x0,()))).bind fun d5=>match d5 with | .inl y3=>some ((y3.1.1,()),()) | .inr (.inl y4)=>some ((0,()),()) | .inr (.inr e)=>nomatch e) else (aL rZ (((),(0,())),(x0,()))).bind fun d8=>match d8 with | .inl y6=>some ((y6.1.1,()),()) | .inr (.inl y7)=>some ((0,()),()) | .inr (.inr e)=>nomatch e
noncomputable def aiw:E:=⟨133,[],C [.v iF,.v (.int .i64)] [(.int .i64)] fun x=>TS x.1 x.2.1,fh [Xw,TQ] [(0,fx ⟨[(2,.bx 2 0),(5,.v (.int .i64))],[(2,.typ iF)]⟩ [(.ret,⟨[(4,.v (.int .i64))],[]⟩),(.exit 0,⟨[],[]⟩)] rZ)] Tryz.func133⟩
noncomputable def TT (x0:iU) (x1 x2:Int):Option ((iU×(Int×Unit))×Unit) :=
bif (!(f42 x1 1 33)) then some ((x0,x2,()),()) else bif (x1 == 1) then some (((x0.1,(x0.2.1,(x2,((IntKind.wrap .u32 (x1)),(x0.2.2.2.2.1,(false,(true,x0.2.2.2.2.2.2.2))))))),x0.2.1,()),()) else (Hg x0.2.2.2.2.2.2.2.1 (wI (x1 - 2))).bind fun y1=>bif (y1.1.1 == 1) then bif (decide (0≤(IntKind.wrap .u64 ((wI (x1 - 2)))))) then some (((x0.1,(x0.2.1,(x2,((IntKind.wrap .u32 (x1)),(x0.2.2.2.2.1,(x0.2.2.2.2.2.1,(true,((IntKind.wrap .u32 (x0.2.2.2.2.2.2.2.1 - (kW .u32 1 (IntKind.wrap .u64 ((wI (x1 - 2))))))),())))))))),x0.2.1,()),()) else none else some (((x0.1,(x0.2.1,(x2,((IntKind.wrap .u32 (x1)),(x0.2.2.2.2.1,(x0.2.2.2.2.2.1,(true,x0.2.2.2.2.2.2.2))))))),x0.2.1,()),())
noncomputable def aix:E:=⟨134,[],C [.v iF,.v (.int .i64),.v (.int .u32)] [iF,(.int .u32)] fun x=>TT x.1 x.2.1 x.2.2.1,fh [w9,TQ] [] Tryz.func134⟩
noncomputable def vT:Xj→Option (nL⊕(((Int×Unit)×Unit)⊕Empty)):=fun ⟨⟨t0,t3,t4,_⟩,_⟩ =>
bif (decide (t4 < (t0.len:Int))) then bif (decide (0≤t4)&&decide (t4 < (t0.len:Int))) then some (.inl ((t0,((IntKind.wrap .u32 ((Dj .u32 (Eu .u32 (kW .u32 t3 5) (dz .u32 t3 27)) (L.get t0 t4.toNat)) + 2654435769)),((wI (t4 + 1)),()))),())) else none else some (.inr (.inl ((t3,()),())))
noncomputable def Qz (x0:(L Int)):Option ((Int×Unit)×Unit) :=
(aL vT ((x0,(1,(0,()))),())).bind fun d2=>match d2 with | .inl y1=>some ((y1.1.1,()),()) | .inr e=>nomatch e
noncomputable def aiy:E:=⟨143,[],C [.v (.sl (.int .u32))] [(.int .u32)] fun x=>Qz x.1,fh [] [(0,fx ⟨[(0,.v (.sl (.int .u32))),(3,.v (.int .u32)),(4,.v (.int .i64))],[]⟩ [(.exit 0,⟨[(3,.v (.int .u32))],[]⟩)] vT)] Tryz.func143⟩
noncomputable def XC (x0:(Int×(Int×(Int×Unit)))) (x1:Int):Option ((Bool×Unit)×Unit) :=
bif (decide (x1 ≥ x0.1)) then some (((decide (x1 < (wI (x0.1 + x0.2.1)))),()),()) else some ((false,()),())
noncomputable def lV (x0:(Int×(Int×(Int×Unit)))) (x1:Int):Bool :=
bif (decide (x1 ≥ x0.1)) then (decide (x1 < (wI (x0.1 + x0.2.1)))) else false
theorem aiz (x0:(Int×(Int×(Int×Unit)))) (x1:Int):XC x0 x1 = some ((lV x0 x1,()),()):=by simp only [XC,lV,bL]
noncomputable def WV:E:=⟨369,[],C [.v bI,.v (.int .i64)] [.bool] fun x=>some ((lV x.1 x.2.1,()),()),jO [] [] (fun x=>XC x.1 x.2.1) Tryz.func369 fun x=>aiz x.1 x.2.1⟩
noncomputable def zK:(KM)→Option (KM⊕(((Int×Unit)×Unit)⊕((Unit×Unit)⊕Empty))):=fun ⟨⟨t0,t1,t5,_⟩,_⟩ =>
bif (decide (t5 < (t0.len:Int))) then bif (decide (0≤t5)&&decide (t5 < (t0.len:Int))) then bif (lV (L.get t0 t5.toNat) t1) then some (.inr (.inl ((t5,()),()))) else some (.inl ((t0,(t1,((wI (t5 + 1)),()))),())) else none else some (.inr (.inr (.inl ((),()))))
noncomputable def Jo (x0:eO) (x1:Int):Option ((Int×Unit)×Unit) :=
(aL zK ((x0,(x1,(0,()))),())).bind fun d3=>match d3 with | .inl y1=>some ((y1.1.1,()),()) | .inr (.inl y2)=>some (((-1:Int),()),()) | .inr (.inr e)=>nomatch e
noncomputable def XD:E:=⟨329,[],C [.v bZ,.v (.int .i64)] [(.int .i64)] fun x=>Jo x.1 x.2.1,fh [WV] [(0,fx ⟨[(0,.v bZ),(1,.v (.int .i64)),(5,.v (.int .i64))],[]⟩ [(.ret,⟨[(4,.v (.int .i64))],[]⟩),(.exit 0,⟨[],[]⟩)] zK)] Tryz.func329⟩
noncomputable def MQ (x0:eO) (x1 x2 x3:Int):Option ((Int×Unit)×Unit) :=
bif (!decide (x2 = 0)) then bif ((Int.tmod (wI (x1)) x2) != 0) then some ((1,()),()) else (Jo x0 (wI (x1))).bind fun y1=>bif (decide (y1.1.1 < 0)) then some ((2,()),()) else bif (decide (0≤y1.1.1)&&decide (y1.1.1 < (x0.len:Int))) then bif (!decide (x3 = 0)) then bif ((Int.tmod (wI (Int.tdiv (L.get x0 y1.1.1.toNat).2.2.1 x3)) 2) == 0) then some ((3,()),()) else some ((0,()),()) else none else none else none
noncomputable def ae5:E:=⟨243,[],C [.v bZ,.v (.int .u32),.v (.int .i64),.v (.int .i64)] [(.int .i64)] fun x=>MQ x.1 x.2.1 x.2.2.1 x.2.2.2.1,fh [XD] [] Tryz.func243⟩
noncomputable def zL:(((eO×TI)×Ew))→Option (((eO×TI)×Ew)⊕(((Int×Unit)×Unit)⊕Empty)):=fun ⟨⟨t0,t2,_,t9,t10,t11,_⟩,b5,_⟩ =>
bif (decide (t11 ≥ 0)) then bif (decide (0≤t9)&&decide (t9 < (b5.2.2.1.len:Int))) then bif (decide (0≤t9)&&decide (t9 < (t0.len:Int))) then bif (decide (0≤(wI ((wI (t2 - (L.get t0 t9.toNat).1)) + t11)))&&decide ((wI ((wI (t2 - (L.get t0 t9.toNat).1)) + t11)) < ((L.get b5.2.2.1 t9.toNat).len:Int))) then some (.inl ((t0,(t2,((),(t9,((wI ((wI (256 * t10)) + (wI ((L.get (L.get b5.2.2.1 t9.toNat) (wI ((wI (t2 - (L.get t0 t9.toNat).1)) + t11)).toNat))))),((wI (t11 - 1)),())))))),(b5,()))) else none else none else none else some (.inr (.inl ((t10,()),())))
noncomputable def QA (x0:eO) (x1:kQ) (x2 x3:Int):Option ((Int×Unit)×Unit) :=
(Jo x0 x2).bind fun y1=>(aL zL ((x0,(x2,((),(y1.1.1,(0,((wI (x3 - 1)),())))))),(x1,()))).bind fun d3=>match d3 with | .inl y2=>some (((IntKind.wrap .u32 (y2.1.1)),()),()) | .inr e=>nomatch e
noncomputable def ae6:E:=⟨244,[],C [.v bZ,.v gV,.v (.int .i64),.v (.int .i64)] [(.int .u32)] fun x=>QA x.1 x.2.1 x.2.2.1 x.2.2.2.1,fh [XD] [(0,fx ⟨[(0,.v bZ),(2,.v (.int .i64)),(5,.bx 5 0),(9,.v (.int .i64)),(10,.v (.int .i64)),(11,.v (.int .i64))],[(5,.typ gV)]⟩ [(.exit 0,⟨[(10,.v (.int .i64))],[]⟩)] zL)] Tryz.func244⟩
noncomputable def QB (x0:eO) (x1:kQ):Option ((Int×(Int×Unit))×Unit) :=
(MQ x0 x1.2.1 4 4).bind fun y1=>bif (y1.1.1 != 0) then some ((0,y1.1.1,()),()) else (QA x0 x1 (wI (x1.2.1)) 4).bind fun y2=>some ((y2.1.1,0,()),())
noncomputable def ae7:E:=⟨135,[],C [.v bZ,.v gV] [(.int .u32),(.int .i64)] fun x=>QB x.1 x.2.1,fh [ae5,ae6] [] Tryz.func135⟩
noncomputable def Jp (x0 wW:Int):Option Dn :=
(Qu ((wI (Int.tdiv (wI (x0)) 67108864)),((Int.tmod (wI (Int.tdiv (wI (x0)) 4194304)) 16),((Int.tmod (wI (Int.tdiv (wI (x0)) 262144)) 16),((Int.tmod (wI (Int.tdiv (wI (x0)) 16384)) 16),(wW,())))))).bind fun cO=>bif (!cO.1.1) then some (((0,(0,(0,(0,(0,()))))),false,()),()) else some ((((wI (Int.tdiv (wI (x0)) 67108864)),((Int.tmod (wI (Int.tdiv (wI (x0)) 4194304)) 16),((Int.tmod (wI (Int.tdiv (wI (x0)) 262144)) 16),((Int.tmod (wI (Int.tdiv (wI (x0)) 16384)) 16),(wW,()))))),true,()),())
noncomputable def MR (x0:Int):Option Dn :=
bif (decide ((Int.tmod (wI (x0)) 16384) ≥ 8192)) then Jp x0 (wI ((Int.tmod (wI (x0)) 16384) - 16384)) else Jp x0 (Int.tmod (wI (x0)) 16384)
noncomputable def ae8:E:=⟨139,[],C [.v (.int .u32)] [qB,.bool] fun x=>MR x.1,fh [aeY] [] Tryz.func139⟩
noncomputable def zM:(Xk)→Option (Xk⊕(((Int×Unit)×Unit)⊕Empty)):=fun ⟨⟨t0,t5,t6,t7,_⟩,_⟩ =>
bif (decide (t7 ≥ 0)) then bif (decide ((wI (t7 + t5)) > 31)) then (Hg t0 31).bind fun y1=>some (.inl ((t0,(t5,((wI ((wI (2 * t6)) + y1.1.1)),((wI (t7 - 1)),())))),())) else (Hg t0 (wI (t7 + t5))).bind fun y2=>some (.inl ((t0,(t5,((wI ((wI (2 * t6)) + y2.1.1)),((wI (t7 - 1)),())))),())) else some (.inr (.inl ((t6,()),())))
noncomputable def TU (x0 x1:Int):Option ((Int×Unit)×Unit) :=
(aL zM ((x0,((wI ((Int.tmod x1 32))),(0,(31,())))),())).bind fun d4=>match d4 with | .inl y3=>some (((IntKind.wrap .u32 (y3.1.1)),()),()) | .inr e=>nomatch e
noncomputable def aiA:E:=⟨330,[],C [.v (.int .u32),.v (.int .u32)] [(.int .u32)] fun x=>TU x.1 x.2.1,fh [TQ] [(0,fx ⟨[(0,.v (.int .u32)),(5,.v (.int .i64)),(6,.v (.int .i64)),(7,.v (.int .i64))],[]⟩ [(.exit 0,⟨[(6,.v (.int .i64))],[]⟩)] zM)] Tryz.func330⟩
noncomputable def XE (x0:Int):Option ((Int×Unit)×Unit) :=
bif (decide ((wI (x0)) ≥ 2147483648)) then some (((wI ((wI (x0)) - 4294967296)),()),()) else some (((wI (x0)),()),())
noncomputable def Jq (x0:Int):Int :=
bif (decide ((wI (x0)) ≥ 2147483648)) then (wI ((wI (x0)) - 4294967296)) else (wI (x0))
theorem aiB (x0:Int):XE x0 = some ((Jq x0,()),()):=by simp only [XE,Jq,bL]
noncomputable def aiC:E:=⟨370,[],C [.v (.int .u32)] [(.int .i64)] fun x=>some ((Jq x.1,()),()),jO [] [] (fun x=>XE x.1) Tryz.func370 fun x=>aiB x.1⟩
noncomputable def XF (x0 x1:Int):Option ((Bool×Unit)×Unit) :=
some (((decide ((Jq x0) < (Jq x1))),()),())
noncomputable def f332 (x0 x1:Int):Bool :=
(decide ((Jq x0) < (Jq x1)))
theorem n332 (x0:Int) (x1:Int):XF x0 x1 = some ((f332 x0 x1,()),()):=by simp only [XF,f332,bL]
noncomputable def ae9:E:=⟨332,[],C [.v (.int .u32),.v (.int .u32)] [.bool] fun x=>some ((f332 x.1 x.2.1,()),()),jO [aiC] [] (fun x=>XF x.1 x.2.1) Tryz.func332 fun x=>n332 x.1 x.2.1⟩
noncomputable def XG (x0:Bool):Option ((Int×Unit)×Unit) :=
bif x0 then some ((1,()),()) else some ((0,()),())
noncomputable def f331 (x0:Bool):Int :=
bif x0 then 1 else 0
theorem n331 (x0:Bool):XG x0 = some ((f331 x0,()),()):=by simp only [XG,f331,bL]
noncomputable def afa:E:=⟨331,[],C [.v .bool] [(.int .u32)] fun x=>some ((f331 x.1,()),()),jO [] [] (fun x=>XG x.1) Tryz.func331 fun x=>n331 x.1⟩
noncomputable def TV (x0 x1 x2:Int):Option ((Int×(Int×Unit))×Unit) :=
bif (x0 == 1) then some (((IntKind.wrap .u32 (x1 + x2)),0,()),()) else bif (x0 == 2) then some (((IntKind.wrap .u32 (x1 - x2)),0,()),()) else bif (x0 == 3) then some (((bP .u32 x1 x2),0,()),()) else bif (x0 == 4) then some (((Eu .u32 x1 x2),0,()),()) else bif (x0 == 5) then some (((Dj .u32 x1 x2),0,()),()) else bif (x0 == 6) then bif (decide (0≤(IntKind.wrap .u64 ((Int.tmod x2 32))))) then some (((kW .u32 x1 (IntKind.wrap .u64 ((Int.tmod x2 32)))),0,()),()) else none else bif (x0 == 7) then bif (decide (0≤(IntKind.wrap .u64 ((Int.tmod x2 32))))) then some (((dz .u32 x1 (IntKind.wrap .u64 ((Int.tmod x2 32)))),0,()),()) else none else bif (x0 == 8) then (TU x1 x2).bind fun y1=>some ((y1.1.1,0,()),()) else bif (x0 == 9) then some (((IntKind.wrap .u32 (x1 * x2)),0,()),()) else bif (x0 == 10) then bif (x2 == 0) then some ((0,5,()),()) else bif (!decide (x2 = 0)) then some (((IntKind.wrap .u32 (Int.tdiv x1 x2)),0,()),()) else none else bif (x0 == 11) then some (((f331 (f332 x1 x2)),0,()),()) else bif (x0 == 12) then some (((f331 (decide (x1 < x2))),0,()),()) else some ((0,4,()),())
noncomputable def aiD:E:=⟨245,[],C [.v (.int .i64),.v (.int .u32),.v (.int .u32)] [(.int .u32),(.int .i64)] fun x=>TV x.1 x.2.1 x.2.2.1,fh [aiA,ae9,afa] [] Tryz.func245⟩
noncomputable def gM (x0:kQ) (x1 x2:Int):Option O0 :=
bif (decide (x1 > 0)) then bif (decide (0≤x1)&&decide (x1 < (x0.1.len:Int))) then some ((),(((L.set x0.1 x1.toNat x2),((Ty.zero (.int .u32)),(x0.2.2.1,(Ty.zero .unit)))),())) else none else some ((),((x0.1,((Ty.zero (.int .u32)),(x0.2.2.1,(Ty.zero .unit)))),()))
noncomputable def U7:E:=⟨246,[],C [.ow gV,.v (.int .i64),.v (.int .u32)] [] fun x=>gM x.1 x.2.1 x.2.2.1,fh [] [] Tryz.func246⟩
noncomputable def vU:(((eO×(Int×(Int×PZ)))×(Ta3×((L Int)×Je))))→Option (((eO×(Int×(Int×PZ)))×(Ta3×((L Int)×Je)))⊕((Unit×Je)⊕Empty)):=fun ⟨⟨t0,t2,t3,_,t10,_,t12,_⟩,⟨_,ke,_⟩,wc,w7,wE,_⟩ =>
bif (decide (t12 < t3)) then bif (decide (0≤t10)&&decide (t10 < (wE.len:Int))) then bif (decide (0≤t10)&&decide (t10 < (t0.len:Int))) then bif (decide (0≤t12)&&decide (t12 < (wc.len:Int))) then bif (decide (0≤(wI ((wI (t2 - (L.get t0 t10.toNat).1)) + t12)))&&decide ((wI ((wI (t2 - (L.get t0 t10.toNat).1)) + t12)) < ((L.get wE t10.toNat).len:Int))) then some (.inl ((t0,(t2,(t3,((),(t10,((),((wI (t12 + 1)),()))))))),(((),(ke,((),()))),(wc,(w7,((L.upd wE t10.toNat fun e=>(L.set e (wI ((wI (t2 - (L.get t0 t10.toNat).1)) + t12)).toNat (L.get wc t12.toNat))),())))))) else none else none else none else none else some (.inr (.inl ((),(w7,(wE,())))))
noncomputable def K8 (x0:eO) (x1:kQ) (x2 x3 x4:Int):Option O0 :=
(Jo x0 x2).bind fun y1=>(aL vU ((x0,(x2,(x3,((),(y1.1.1,((),(0,()))))))),(((),(x1.2.1,((),()))),((x8 x4),(x1.1,x1.2.2))))).bind fun d3=>match d3 with | .inl y2=>some ((),((y2.2.1,((Ty.zero (.int .u32)),(y2.2.2.1,(Ty.zero .unit)))),())) | .inr e=>nomatch e
noncomputable def afb:E:=⟨247,[],C [.v bZ,.ow gV,.v (.int .i64),.v (.int .i64),.v (.int .u32)] [] fun x=>K8 x.1 x.2.1 x.2.2.1 x.2.2.2.1 x.2.2.2.2.1,fh [XD,U3] [(0,fx ⟨[(0,.v bZ),(2,.v (.int .i64)),(3,.v (.int .i64)),(6,.bx 6 0),(10,.v (.int .i64)),(11,.ms 1001088),(12,.v (.int .i64))],[(6,.cells [.ms 200000064,.v (.int .u32),.ms 200000065]),(1001088,.row (.int .u8)),(200000064,.row (.int .u32)),(200000065,.row (.sl (.int .u8)))]⟩ [(.exit 0,⟨[],[(200000064,.row (.int .u32)),(200000065,.row (.sl (.int .u8)))]⟩)] vU)] Tryz.func247⟩
noncomputable def XH (x0 x1 x2:Int):Option ((Bool×Unit)×Unit) :=
bif (x0 == 19) then some (((x1 == x2),()),()) else bif (x0 == 20) then some (((x1 != x2),()),()) else bif (x0 == 21) then some (((f332 x1 x2),()),()) else some ((false,()),())
noncomputable def f248 (x0 x1 x2:Int):Bool :=
bif (x0 == 19) then (x1 == x2) else bif (x0 == 20) then (x1 != x2) else bif (x0 == 21) then (f332 x1 x2) else false
theorem n248 (x0:Int) (x1:Int) (x2:Int):XH x0 x1 x2 = some ((f248 x0 x1 x2,()),()):=by simp only [XH,f248,bL]
noncomputable def aiE:E:=⟨248,[],C [.v (.int .i64),.v (.int .u32),.v (.int .u32)] [.bool] fun x=>some ((f248 x.1 x.2.1 x.2.2.1,()),()),jO [ae9] [] (fun x=>XH x.1 x.2.1 x.2.2.1) Tryz.func248 fun x=>n248 x.1 x.2.1 x.2.2.1⟩
noncomputable def BA (x0:eO) (x1:kQ) (y2:Dn) (jM:Int):Option xP :=
(MQ x0 (IntKind.wrap .u32 ((L.get x1.1 y2.1.1.2.2.1.toNat) + (IntKind.wrap .u32 (y2.1.1.2.2.2.2.1)))) jM 2).bind fun TW=>bif (TW.1.1 != 0) then some (((x1,(TW.1.1,(y2.1.1.1,((-1:Int),(false,(false,())))))),()),()) else (K8 x0 x1 (wI ((IntKind.wrap .u32 ((L.get x1.1 y2.1.1.2.2.1.toNat) + (IntKind.wrap .u32 (y2.1.1.2.2.2.2.1)))))) jM (L.get x1.1 y2.1.1.2.1.toNat)).bind fun Hl=>some ((((Hl.2.1.1,((IntKind.wrap .u32 (x1.2.1 + 4)),Hl.2.1.2.2)),(0,(y2.1.1.1,((wI ((IntKind.wrap .u32 ((L.get x1.1 y2.1.1.2.2.1.toNat) + (IntKind.wrap .u32 (y2.1.1.2.2.2.2.1)))))),(true,(false,())))))),()),())
noncomputable def vV (y2:Dn) (x0:eO) (x1:kQ) (jM:Int):Option xP :=
bif (y2.1.1.1 == 16) then BA x0 x1 y2 jM else bif (y2.1.1.1 == 18) then BA x0 x1 y2 jM else (MQ x0 (IntKind.wrap .u32 ((L.get x1.1 y2.1.1.2.2.1.toNat) + (IntKind.wrap .u32 (y2.1.1.2.2.2.2.1)))) jM 1).bind fun lU=>bif (lU.1.1 != 0) then some (((x1,(lU.1.1,(y2.1.1.1,((-1:Int),(false,(false,())))))),()),()) else (QA x0 x1 (wI ((IntKind.wrap .u32 ((L.get x1.1 y2.1.1.2.2.1.toNat) + (IntKind.wrap .u32 (y2.1.1.2.2.2.2.1)))))) jM).bind fun Mw=>(gM x1 y2.1.1.2.1 Mw.1.1).bind fun BR=>some ((((BR.2.1.1,((IntKind.wrap .u32 (x1.2.1 + 4)),BR.2.1.2.2)),(0,(y2.1.1.1,((wI ((IntKind.wrap .u32 ((L.get x1.1 y2.1.1.2.2.1.toNat) + (IntKind.wrap .u32 (y2.1.1.2.2.2.2.1)))))),(false,(false,())))))),()),())
noncomputable def EU (x0:eO) (x1:kQ) (x2:Int):Option xP :=
(QB x0 x1).bind fun y1=>bif (y1.1.2.1 != 0) then some (((x1,(y1.1.2.1,((-1:Int),((-1:Int),(false,(false,())))))),()),()) else (MR y1.1.1).bind fun y2=>bif (!y2.1.2.1) then some (((x1,(4,((-1:Int),((-1:Int),(false,(false,())))))),()),()) else bif (decide (y2.1.1.1 ≥ 25)) then some (((x1,(0,(y2.1.1.1,((-1:Int),(false,(true,())))))),()),()) else bif (decide (0≤y2.1.1.2.1)&&decide (y2.1.1.2.1 < (x1.1.len:Int))) then bif (decide (0≤y2.1.1.2.2.1)&&decide (y2.1.1.2.2.1 < (x1.1.len:Int))) then bif (f42 y2.1.1.1 1 12) then bif (decide (0≤y2.1.1.2.2.2.1)&&decide (y2.1.1.2.2.2.1 < (x1.1.len:Int))) then (TV y2.1.1.1 (L.get x1.1 y2.1.1.2.2.1.toNat) (L.get x1.1 y2.1.1.2.2.2.1.toNat)).bind fun y3=>bif (y3.1.2.1 != 0) then some (((x1,(y3.1.2.1,(y2.1.1.1,((-1:Int),(false,(false,())))))),()),()) else (gM x1 y2.1.1.2.1 y3.1.1).bind fun y4=>some ((((y4.2.1.1,((IntKind.wrap .u32 (x1.2.1 + 4)),y4.2.1.2.2)),(0,(y2.1.1.1,((-1:Int),(false,(false,())))))),()),()) else none else bif (y2.1.1.1 == 13) then (gM x1 y2.1.1.2.1 (IntKind.wrap .u32 ((L.get x1.1 y2.1.1.2.2.1.toNat) + (IntKind.wrap .u32 (y2.1.1.2.2.2.2.1))))).bind fun y5=>some ((((y5.2.1.1,((IntKind.wrap .u32 (x1.2.1 + 4)),y5.2.1.2.2)),(0,(y2.1.1.1,((-1:Int),(false,(false,())))))),()),()) else bif (y2.1.1.1 == 14) then (gM x1 y2.1.1.2.1 (kW .u32 (IntKind.wrap .u32 (y2.1.1.2.2.2.2.1)) 14)).bind fun y6=>some ((((y6.2.1.1,((IntKind.wrap .u32 (x1.2.1 + 4)),y6.2.1.2.2)),(0,(y2.1.1.1,((-1:Int),(false,(false,())))))),()),()) else bif (f42 y2.1.1.1 15 18) then bif (y2.1.1.1 == 17) then vV y2 x0 x1 1 else bif (y2.1.1.1 == 18) then vV y2 x0 x1 1 else vV y2 x0 x1 4 else bif (f42 y2.1.1.1 19 21) then bif (f248 y2.1.1.1 (L.get x1.1 y2.1.1.2.1.toNat) (L.get x1.1 y2.1.1.2.2.1.toNat)) then some ((((x1.1,((IntKind.wrap .u32 ((IntKind.wrap .u32 (x1.2.1 + 4)) + (IntKind.wrap .u32 (4 * (IntKind.wrap .u32 (y2.1.1.2.2.2.2.1)))))),x1.2.2)),(0,(y2.1.1.1,((-1:Int),(false,(false,())))))),()),()) else some ((((x1.1,((IntKind.wrap .u32 (x1.2.1 + 4)),x1.2.2)),(0,(y2.1.1.1,((-1:Int),(false,(false,())))))),()),()) else bif (y2.1.1.1 == 22) then (gM x1 y2.1.1.2.1 (IntKind.wrap .u32 (x1.2.1 + 4))).bind fun y28=>some ((((y28.2.1.1,((IntKind.wrap .u32 ((IntKind.wrap .u32 (x1.2.1 + 4)) + (IntKind.wrap .u32 (4 * (IntKind.wrap .u32 (y2.1.1.2.2.2.2.1)))))),y28.2.1.2.2)),(0,(y2.1.1.1,((-1:Int),(false,(false,())))))),()),()) else bif (y2.1.1.1 == 23) then some ((((x1.1,((IntKind.wrap .u32 ((L.get x1.1 y2.1.1.2.2.1.toNat) + (IntKind.wrap .u32 (y2.1.1.2.2.2.2.1)))),x1.2.2)),(0,(y2.1.1.1,((-1:Int),(false,(false,())))))),()),()) else bif (y2.1.1.1 == 24) then (gM x1 y2.1.1.2.1 (IntKind.wrap .u32 (x2))).bind fun y29=>some ((((y29.2.1.1,((IntKind.wrap .u32 (x1.2.1 + 4)),y29.2.1.2.2)),(0,(y2.1.1.1,((-1:Int),(false,(false,())))))),()),()) else some ((((x1.1,((IntKind.wrap .u32 (x1.2.1 + 4)),x1.2.2)),(0,(y2.1.1.1,((-1:Int),(false,(false,())))))),()),()) else none else none
noncomputable def XI:E:=⟨136,[],C1 [.v bZ,.mv gV,.v (.int .i64)] [Kt] fun x=>EU x.1 x.2.1 x.2.2.1,fh [ae7,ae8,w9,aiD,U7,ae5,afb,ae6,aiE] [] Tryz.func136⟩
noncomputable def vW:Xj→Option (nL⊕(((Bool×Unit)×Unit)⊕((Unit×Unit)⊕Empty))):=fun ⟨⟨t0,t1,t5,_⟩,_⟩ =>
bif (decide (t5 < (t0.len:Int))) then bif (decide (0≤t5)&&decide (t5 < (t0.len:Int))) then bif ((L.get t0 t5.toNat) == t1) then some (.inr (.inl ((true,()),()))) else some (.inl ((t0,(t1,((wI (t5 + 1)),()))),())) else none else some (.inr (.inr (.inl ((),()))))
noncomputable def TY (x0:(L Int)) (x1:Int):Option ((Bool×Unit)×Unit) :=
(aL vW ((x0,(x1,(0,()))),())).bind fun d3=>match d3 with | .inl y1=>some ((y1.1.1,()),()) | .inr (.inl y2)=>some ((false,()),()) | .inr (.inr e)=>nomatch e
noncomputable def aiF:E:=⟨334,[],C [.v (.sl (.int .i64)),.v (.int .i64)] [.bool] fun x=>TY x.1 x.2.1,fh [] [(0,fx ⟨[(0,.v (.sl (.int .i64))),(1,.v (.int .i64)),(5,.v (.int .i64))],[]⟩ [(.ret,⟨[(4,.v .bool)],[]⟩),(.exit 0,⟨[],[]⟩)] vW)] Tryz.func334⟩
noncomputable def K9 (x0:(Int×((L Int)×Unit))) (x1:Int):Option (((Int×((L Int)×Unit))×(Bool×Unit))×Unit) :=
bif (decide ((L.of (Ty.zero (.int .i64)) []).len + x0.2.1.len≤most)) then (TY x0.2.1 (wI (Int.tdiv x1 64))).bind fun y1=>bif y1.1.1 then some (((x0.1,((L.app (L.of (Ty.zero (.int .i64)) []) x0.2.1),())),true,()),()) else bif (decide ((L.app (L.of (Ty.zero (.int .i64)) []) x0.2.1).len + (L.of (Ty.zero (.int .i64)) [(wI (Int.tdiv x1 64))]).len≤most)) then bif (decide (((L.app (L.app (L.of (Ty.zero (.int .i64)) []) x0.2.1) (L.of (Ty.zero (.int .i64)) [(wI (Int.tdiv x1 64))])).len:Int) > x0.1)) then bif (decide (0≤1)&&(decide (1≤((L.app (L.app (L.of (Ty.zero (.int .i64)) []) x0.2.1) (L.of (Ty.zero (.int .i64)) [(wI (Int.tdiv x1 64))])).len:Int))&&decide (((L.app (L.app (L.of (Ty.zero (.int .i64)) []) x0.2.1) (L.of (Ty.zero (.int .i64)) [(wI (Int.tdiv x1 64))])).len:Int)≤((L.app (L.app (L.of (Ty.zero (.int .i64)) []) x0.2.1) (L.of (Ty.zero (.int .i64)) [(wI (Int.tdiv x1 64))])).len:Int)))) then bif (decide ((L.of (Ty.zero (.int .i64)) []).len + (L.cut (L.app (L.app (L.of (Ty.zero (.int .i64)) []) x0.2.1) (L.of (Ty.zero (.int .i64)) [(wI (Int.tdiv x1 64))])) (1:Int).toNat ((L.app (L.app (L.of (Ty.zero (.int .i64)) []) x0.2.1) (L.of (Ty.zero (.int .i64)) [(wI (Int.tdiv x1 64))])).len:Int).toNat).len≤most)) then some (((x0.1,((L.app (L.of (Ty.zero (.int .i64)) []) (L.cut (L.app (L.app (L.of (Ty.zero (.int .i64)) []) x0.2.1) (L.of (Ty.zero (.int .i64)) [(wI (Int.tdiv x1 64))])) (1:Int).toNat ((L.app (L.app (L.of (Ty.zero (.int .i64)) []) x0.2.1) (L.of (Ty.zero (.int .i64)) [(wI (Int.tdiv x1 64))])).len:Int).toNat)),())),false,()),()) else none else none else some (((x0.1,((L.app (L.app (L.of (Ty.zero (.int .i64)) []) x0.2.1) (L.of (Ty.zero (.int .i64)) [(wI (Int.tdiv x1 64))])),())),false,()),()) else none else none
noncomputable def afc:E:=⟨251,[],C1 [.v qA,.v (.int .i64)] [qA,.bool] fun x=>K9 x.1 x.2.1,fh [aiF] [] Tryz.func251⟩
noncomputable def nY:(((Bool×(Unit×(Unit×(Int×(Int×(Unit×(Bool×(Bool×(Int×((L (Int×(Bool×Unit)))×UL))))))))))×Qe))→Option (((Bool×(Unit×(Unit×(Int×(Int×(Unit×(Bool×(Bool×(Int×((L (Int×(Bool×Unit)))×UL))))))))))×Qe)⊕(((Bool×(Unit×(Unit×(Int×(Int×(Unit×(Bool×(Bool×YK))))))))×Qe)⊕Empty)):=fun ⟨⟨t2,_,_,t10,t11,_,nE,fH,ug,t16,_,_,oF,_⟩,b3,_,⟨u9,wa,wb,_⟩,b17,r64,wF,_⟩ =>
bif (decide (oF < (t16.len:Int))) then bif (decide (0≤oF)&&decide (oF < (t16.len:Int))) then bif ((L.get t16 oF.toNat).1 == t11) then bif t2 then some (.inl ((t2,((),((),(t10,(t11,((),(true,(fH,(ug,(t16,((),((),((wI (oF + 1)),()))))))))))))),(b3,(((),((),((),((),())))),((u9,(wa,(wb,((),())))),((b17.1,(true,())),(r64,(wF,())))))))) else bif (decide (0≤oF)&&decide (oF < (t16.len:Int))) then some (.inl ((t2,((),((),(t10,(t11,((),(true,(fH,(ug,(t16,((),((),((wI (oF + 1)),()))))))))))))),(b3,(((),((),((),((),())))),((u9,(wa,(wb,((),())))),((b17.1,(L.get t16 oF.toNat).2),(r64,(wF,())))))))) else none else bif (decide (0≤oF)&&decide (oF < (t16.len:Int))) then bif (decide (r64.len + (L.of (Ty.zero jc) [(L.get t16 oF.toNat)]).len≤most)) then some (.inl ((t2,((),((),(t10,(t11,((),(nE,(fH,(ug,(t16,((),((),((wI (oF + 1)),()))))))))))))),(b3,(((),((),((),((),())))),((u9,(wa,(wb,((),())))),(b17,((L.app r64 (L.of (Ty.zero jc) [(L.get t16 oF.toNat)])),(wF,())))))))) else none else none else none else some (.inr (.inl ((t2,((),((),(t10,(t11,((),(nE,(fH,(ug,((),((),()))))))))))),(b3,(((),((),((),((),())))),((u9,(wa,(wb,((),())))),(b17,(r64,(wF,())))))))))
noncomputable def nZ:(((Bool×(Unit×(Unit×(Int×(Int×(Unit×Ta7))))))×(nT×Dk)))→Option (((Bool×(Unit×(Unit×(Int×(Int×(Unit×Ta7))))))×(nT×Dk))⊕(((Unit×(Unit×(Bool×(Bool×Unit))))×OV)⊕Empty)):=fun ⟨⟨t2,_,_,t10,t11,_,nE,fH,ug,_⟩,b3,_,⟨u9,wa,wb,wG,_⟩,_⟩ =>
bif (decide (ug < (b3.2.1.len:Int))) then bif (decide (0≤ug)&&decide (ug < (b3.2.1.len:Int))) then bif (ug != t10) then bif (decide ((L.of (Ty.zero jc) []).len + (L.get b3.2.1 ug.toNat).len≤most)) then bif (decide (wG.len + (L.of (Ty.zero bS) [(L.app (L.of (Ty.zero jc) []) (L.get b3.2.1 ug.toNat))]).len≤most)) then some (.inl ((t2,((),((),(t10,(t11,((),(nE,(fH,((wI (ug + 1)),()))))))))),(b3,(((),((),((),((),())))),((u9,(wa,(wb,((L.app wG (L.of (Ty.zero bS) [(L.app (L.of (Ty.zero jc) []) (L.get b3.2.1 ug.toNat))])),())))),()))))) else none else none else ((aL nY ((t2,((),((),(t10,(t11,((),(nE,(fH,(ug,((L.get b3.2.1 ug.toNat),((),((),(0,()))))))))))))),(b3,(((),((),((),((),())))),((u9,(wa,(wb,((),())))),((t11,(t2,())),((L.of (Ty.zero jc) []),(wG,())))))))).bind fun d2=>match d2 with | .inl y1=>bif ((y1.2.2.2.2.2.1.len:Int) == y1.2.1.1.2.1) then bif (decide (0≤(wI ((y1.2.2.2.2.2.1.len:Int) - 1)))&&decide ((wI ((y1.2.2.2.2.2.1.len:Int) - 1)) < (y1.2.2.2.2.2.1.len:Int))) then bif (decide (0≤0)&&(decide (0≤(wI ((y1.2.2.2.2.2.1.len:Int) - 1)))&&decide ((wI ((y1.2.2.2.2.2.1.len:Int) - 1))≤(y1.2.2.2.2.2.1.len:Int)))) then bif (decide ((L.of (Ty.zero jc) [y1.2.2.2.2.1]).len + (L.cut y1.2.2.2.2.2.1 (0:Int).toNat (wI ((y1.2.2.2.2.2.1.len:Int) - 1)).toNat).len≤most)) then bif (decide (y1.2.2.2.2.2.2.1.len + (L.of (Ty.zero bS) [(L.app (L.of (Ty.zero jc) [y1.2.2.2.2.1]) (L.cut y1.2.2.2.2.2.1 (0:Int).toNat (wI ((y1.2.2.2.2.2.1.len:Int) - 1)).toNat))]).len≤most)) then some (.inl ((y1.1.1,((),((),(y1.1.2.2.2.1,(y1.1.2.2.2.2.1,((),(y1.1.2.2.2.2.2.2.1,((L.get y1.2.2.2.2.2.1 (wI ((y1.2.2.2.2.2.1.len:Int) - 1)).toNat).2.1,((wI (y1.1.2.2.2.2.2.2.2.2.1 + 1)),()))))))))),(y1.2.1,(((),((),((),((),())))),((y1.2.2.2.1.1,(y1.2.2.2.1.2.1,(y1.2.2.2.1.2.2.1,((L.app y1.2.2.2.2.2.2.1 (L.of (Ty.zero bS) [(L.app (L.of (Ty.zero jc) [y1.2.2.2.2.1]) (L.cut y1.2.2.2.2.2.1 (0:Int).toNat (wI ((y1.2.2.2.2.2.1.len:Int) - 1)).toNat))])),())))),()))))) else none else none else none else none else bif (decide ((L.of (Ty.zero jc) [y1.2.2.2.2.1]).len + y1.2.2.2.2.2.1.len≤most)) then bif (decide (y1.2.2.2.2.2.2.1.len + (L.of (Ty.zero bS) [(L.app (L.of (Ty.zero jc) [y1.2.2.2.2.1]) y1.2.2.2.2.2.1)]).len≤most)) then some (.inl ((y1.1.1,((),((),(y1.1.2.2.2.1,(y1.1.2.2.2.2.1,((),(y1.1.2.2.2.2.2.2.1,(y1.1.2.2.2.2.2.2.2.1,((wI (y1.1.2.2.2.2.2.2.2.2.1 + 1)),()))))))))),(y1.2.1,(((),((),((),((),())))),((y1.2.2.2.1.1,(y1.2.2.2.1.2.1,(y1.2.2.2.1.2.2.1,((L.app y1.2.2.2.2.2.2.1 (L.of (Ty.zero bS) [(L.app (L.of (Ty.zero jc) [y1.2.2.2.2.1]) y1.2.2.2.2.2.1)])),())))),()))))) else none else none | .inr e=>nomatch e) else none else some (.inr (.inl (((),((),(nE,(fH,())))),(((),((),((),((),())))),((u9,(wa,(wb,((),())))),(wG,()))))))
noncomputable def GX (x0:nT) (x1:Int) (x2:Bool):Option ((nT×(Bool×(Bool×Unit)))×Unit) :=
bif (!decide (x0.1.2.2.1 = 0)) then bif (!decide (x0.1.1 = 0)) then bif (!decide (x0.1.1 = 0)) then ((aL nZ ((x2,((),((),((Int.tmod (wI (Int.tdiv x1 x0.1.2.2.1)) x0.1.1),((wI (Int.tdiv (wI (Int.tdiv x1 x0.1.2.2.1)) x0.1.1)),((),(false,(false,(0,()))))))))),(x0,(((),((),((),((),())))),((x0.1.1,(x0.1.2.1,(x0.1.2.2.1,((bG bS),())))),()))))).bind fun d4=>match d4 with | .inl y3=>some ((((y3.2.2.1.1,(y3.2.2.1.2.1,(y3.2.2.1.2.2.1,()))),y3.2.2.2),y3.1.2.2.1,y3.1.2.2.2.1,()),()) | .inr e=>nomatch e) else none else none else none
noncomputable def afd:E:=⟨252,[],C1 [.v iE,.v (.int .i64),.v .bool] [iE,.bool,.bool] fun x=>GX x.1 x.2.1 x.2.2.1,fh [] [(0,fx ⟨[(2,.v .bool),(3,.bx 3 0),(6,.bx 6 0),(10,.v (.int .i64)),(11,.v (.int .i64)),(12,.bx 12 0),(13,.v .bool),(14,.v .bool),(15,.v (.int .i64))],[(3,.typ iE),(6,.cells [.any,.any,.any,.any]),(12,.cells [.v (.int .i64),.v (.int .i64),.v (.int .i64),.row bS 60771])]⟩ [(.exit 0,⟨[(6,.bx 6 0),(12,.bx 12 0),(13,.v .bool),(14,.v .bool)],[(6,.cells [.any,.any,.any,.any]),(12,.cells [.v (.int .i64),.v (.int .i64),.v (.int .i64),.ms 60771]),(60771,.row bS)]⟩)] nZ),(2,fx ⟨[(2,.v .bool),(3,.bx 3 0),(6,.bx 6 0),(10,.v (.int .i64)),(11,.v (.int .i64)),(12,.bx 12 0),(13,.v .bool),(14,.v .bool),(15,.v (.int .i64)),(16,.v bS),(17,.bx 17 0),(18,.ms 64),(19,.v (.int .i64))],[(3,.typ iE),(6,.cells [.any,.any,.any,.any]),(12,.cells [.v (.int .i64),.v (.int .i64),.v (.int .i64),.ms 60771]),(17,.typ jc),(64,.row jc),(60771,.row bS)]⟩ [(.exit 2,⟨[(2,.v .bool),(3,.bx 3 0),(6,.bx 6 0),(10,.v (.int .i64)),(11,.v (.int .i64)),(12,.bx 12 0),(13,.v .bool),(14,.v .bool),(15,.v (.int .i64)),(17,.bx 17 0),(18,.ms 64)],[(3,.typ iE),(6,.cells [.any,.any,.any,.any]),(12,.cells [.v (.int .i64),.v (.int .i64),.v (.int .i64),.ms 60771]),(17,.typ jc),(64,.row jc),(60771,.row bS)]⟩)] nY)] Tryz.func252⟩
noncomputable def DI (x0:bH) (x1:bU) (x2:Int) (x3:Bool):Option Dq :=
(K9 x1.2.2.2.2.1 x2).bind fun y1=>(GX x1.2.2.2.1 x2 x3).bind fun y2=>some (((f253 x0.2.2.2.1 (y2.1.2.1,(y1.1.2.1,y2.1.2.2))),()),((x1.1,(x1.2.1,(x1.2.2.1,(y2.1.1,(y1.1.1,x1.2.2.2.2.2))))),()))
noncomputable def afe:E:=⟨138,[],C [.v bA,.pt cZ,.v (.int .i64),.v .bool] [(.int .i64)] fun x=>DI x.1 x.2.1 x.2.2.1 x.2.2.2.1,fh [afc,afd,aeV] [] Tryz.func138⟩
noncomputable def XJ (x0:gH) (x1:(Int×((L Int)×Unit))):Option ((Bool×Unit)×Unit) :=
bif (!(f328 x0)) then some ((false,()),()) else bif (x0.1 == 0) then bif (x1.1 == 0) then some (((decide ((x1.2.1.len:Int)≤1)),()),()) else some ((false,()),()) else bif (f42 x1.1 0 x0.2.2.2.1) then some (((decide ((wI (x1.1 + (x1.2.1.len:Int)))≤x0.2.2.2.1)),()),()) else some ((false,()),())
noncomputable def f238 (x0:gH) (x1:(Int×((L Int)×Unit))):Bool :=
bif (!(f328 x0)) then false else bif (x0.1 == 0) then bif (x1.1 == 0) then (decide ((x1.2.1.len:Int)≤1)) else false else bif (f42 x1.1 0 x0.2.2.2.1) then (decide ((wI (x1.1 + (x1.2.1.len:Int)))≤x0.2.2.2.1)) else false
theorem n238 (x0:gH) (x1:(Int×((L Int)×Unit))):XJ x0 x1 = some ((f238 x0 x1,()),()):=by simp only [XJ,f238,bL]
noncomputable def WX:E:=⟨238,[],C [.v eP,.v bN] [.bool] fun x=>some ((f238 x.1 x.2.1,()),()),jO [Ta,w9] [] (fun x=>XJ x.1 x.2.1) Tryz.func238 fun x=>n238 x.1 x.2.1⟩
noncomputable def XK (x0:gH) (x1:(Int×((L Int)×Unit))):Option ((Int×Unit)×Unit) :=
bif (!(f238 x0 x1)) then some ((0,()),()) else bif (x0.1 == 0) then some ((1,()),()) else some (((wI ((wI (x0.2.2.2.1 - x1.1)) - (x1.2.1.len:Int))),()),())
noncomputable def f336 (x0:gH) (x1:(Int×((L Int)×Unit))):Int :=
bif (!(f238 x0 x1)) then 0 else bif (x0.1 == 0) then 1 else (wI ((wI (x0.2.2.2.1 - x1.1)) - (x1.2.1.len:Int)))
theorem n336 (x0:gH) (x1:(Int×((L Int)×Unit))):XK x0 x1 = some ((f336 x0 x1,()),()):=by simp only [XK,f336,bL]
noncomputable def aiG:E:=⟨336,[],C [.v eP,.v bN] [(.int .i64)] fun x=>some ((f336 x.1 x.2.1,()),()),jO [WX] [] (fun x=>XK x.1 x.2.1) Tryz.func336 fun x=>n336 x.1 x.2.1⟩
noncomputable def La (x0:gH) (x1:(Int×((L Int)×Unit))) (x2:Int):Option (((Int×((L Int)×Unit))×(Int×Unit))×Unit) :=
bif (!(f238 x0 x1)) then some (((0,((bG (.int .u32)),())),3,()),()) else bif (x0.1 == 0) then some (((0,((L.of (Ty.zero (.int .u32)) [x2]),())),0,()),()) else bif ((f336 x0 x1) == 0) then (lX x1.2.1).bind fun y1=>some (((x1.1,y1.1),2,()),()) else (lX x1.2.1).bind fun y2=>bif (decide (y2.1.1.len + (L.of (Ty.zero (.int .u32)) [x2]).len≤most)) then some (((x1.1,((L.app y2.1.1 (L.of (Ty.zero (.int .u32)) [x2])),())),0,()),()) else none
noncomputable def aff:E:=⟨255,[],C1 [.v eP,.v bN,.v (.int .u32)] [bN,(.int .i64)] fun x=>La x.1 x.2.1 x.2.2.1,fh [WX,aiG,Dt] [] Tryz.func255⟩
noncomputable def XL (x0:gH) (x1:((L Int)×Unit)):Option ((Bool×Unit)×Unit) :=
bif (!(f328 x0)) then some ((false,()),()) else bif (x0.1 == 0) then some (((decide ((x1.1.len:Int)≤1)),()),()) else some (((decide ((x1.1.len:Int)≤x0.2.2.2.1)),()),())
noncomputable def f239 (x0:gH) (x1:((L Int)×Unit)):Bool :=
bif (!(f328 x0)) then false else bif (x0.1 == 0) then (decide ((x1.1.len:Int)≤1)) else (decide ((x1.1.len:Int)≤x0.2.2.2.1))
theorem n239 (x0:gH) (x1:((L Int)×Unit)):XL x0 x1 = some ((f239 x0 x1,()),()):=by simp only [XL,f239,bL]
noncomputable def aam:E:=⟨239,[],C [.v eP,.v eu] [.bool] fun x=>some ((f239 x.1 x.2.1,()),()),jO [Ta] [] (fun x=>XL x.1 x.2.1) Tryz.func239 fun x=>n239 x.1 x.2.1⟩
noncomputable def Lb (x0:gH) (x1:((L Int)×Unit)):Option ((((L Int)×Unit)×(Int×(Int×Unit)))×Unit) :=
bif (!(f239 x0 x1)) then some ((((bG (.int .u32)),()),0,3,()),()) else bif ((x1.1.len:Int) == 0) then some ((((bG (.int .u32)),()),0,1,()),()) else bif (x0.1 == 0) then (lX x1.1).bind fun y1=>bif (decide (0 < (x1.1.len:Int))) then some ((y1.1,(L.get x1.1 (0:Int).toNat),0,()),()) else none else bif (decide (0≤1)&&(decide (1≤(x1.1.len:Int))&&decide ((x1.1.len:Int)≤(x1.1.len:Int)))) then (lX (L.cut x1.1 (1:Int).toNat (x1.1.len:Int).toNat)).bind fun y2=>bif (decide (0 < (x1.1.len:Int))) then some ((y2.1,(L.get x1.1 (0:Int).toNat),0,()),()) else none else none
noncomputable def afg:E:=⟨256,[],C1 [.v eP,.v eu] [eu,(.int .u32),(.int .i64)] fun x=>Lb x.1 x.2.1,fh [aam,Dt] [] Tryz.func256⟩
noncomputable def Lc (x0:H6):Option ((H6×(Int×(Int×Unit)))×Unit) :=
bif (!(f240 x0)) then some ((((bG (.int .u32)),((bG (.int .u32)),())),0,3,()),()) else (xU x0).bind fun y1=>bif ((x0.2.1.len:Int) == 0) then some ((y1.1.1,0,1,()),()) else bif (decide (0≤1)&&(decide (1≤(x0.2.1.len:Int))&&decide ((x0.2.1.len:Int)≤(x0.2.1.len:Int)))) then (lX (L.cut x0.2.1 (1:Int).toNat (x0.2.1.len:Int).toNat)).bind fun y2=>bif (decide (0 < (x0.2.1.len:Int))) then some (((y1.1.1.1,y2.1),(L.get x0.2.1 (0:Int).toNat),0,()),()) else none else none
noncomputable def afh:E:=⟨257,[],C1 [.v bQ] [bQ,(.int .u32),(.int .i64)] fun x=>Lc x.1,fh [WY,Pv,Dt] [] Tryz.func257⟩
noncomputable def T9 (x0:iU) (x1 x2:Int):Option Ta2 :=
bif (x1 == 0) then some (((f331 x0.1),true,()),()) else bif (x1 == 1) then some ((x0.2.1,true,()),()) else bif (x1 == 2) then some ((x0.2.2.1,true,()),()) else bif (x1 == 3) then some ((x0.2.2.2.1,true,()),()) else bif (x1 == 4) then some ((x0.2.2.2.2.1,true,()),()) else bif (x1 == 5) then some (((f331 x0.2.2.2.2.2.1),true,()),()) else bif (x1 == 6) then some ((x0.2.2.2.2.2.2.2.1,true,()),()) else bif (x1 == 7) then (MO x2 4294967296).bind fun y1=>some (((IntKind.wrap .u32 (y1.1.1)),true,()),()) else some ((0,false,()),())
noncomputable def aiH:E:=⟨258,[],C [.v iF,.v (.int .i64),.v (.int .i64)] [(.int .u32),.bool] fun x=>T9 x.1 x.2.1 x.2.2.1,fh [afa,Xw] [] Tryz.func258⟩
noncomputable def Ua (x0:iU) (x1 x2:Int):Option ((iU×(Bool×Unit))×Unit) :=
bif (x1 == 0) then some (((((Int.tmod x2 2) == 1),x0.2),true,()),()) else bif (x1 == 1) then some (((x0.1,(x2,x0.2.2)),true,()),()) else bif (x1 == 2) then some (((x0.1,(x0.2.1,(x2,x0.2.2.2))),true,()),()) else bif (x1 == 4) then some (((x0.1,(x0.2.1,(x0.2.2.1,(x0.2.2.2.1,(x2,x0.2.2.2.2.2))))),true,()),()) else bif (x1 == 5) then some (((x0.1,(x0.2.1,(x0.2.2.1,(x0.2.2.2.1,(x0.2.2.2.2.1,(((Int.tmod x2 2) == 1),x0.2.2.2.2.2.2)))))),true,()),()) else some ((x0,false,()),())
noncomputable def aiI:E:=⟨259,[],C [.v iF,.v (.int .i64),.v (.int .u32)] [iF,.bool] fun x=>Ua x.1 x.2.1 x.2.2.1,fh [] [] Tryz.func259⟩
noncomputable def Ub (x0:iU):Option ((iU×(Int×(Bool×Unit)))×Unit) :=
bif (!x0.2.2.2.2.2.2.1) then some ((x0,0,false,()),()) else some (((x0.1,(x0.2.1,(x0.2.2.1,(x0.2.2.2.1,(x0.2.2.2.2.1,(x0.2.2.2.2.2.1,(false,x0.2.2.2.2.2.2.2))))))),x0.2.2.1,true,()),())
noncomputable def aiJ:E:=⟨260,[],C [.v iF] [iF,(.int .u32),.bool] fun x=>Ub x.1,fh [] [] Tryz.func260⟩
noncomputable def zN (x2:bU) (wW:kQ) (wY jM:Int) (iM:Ms) (mE:KD):Option Dq :=
(gM wW wY jM).bind fun cO=>some ((0,()),(((cO.2.1.1,((IntKind.wrap .u32 (x2.1.2.1 + 4)),cO.2.1.2.2)),(x2.2.1,(x2.2.2.1,(x2.2.2.2.1,(x2.2.2.2.2.1,(x2.2.2.2.2.2.1,(x2.2.2.2.2.2.2.1,(x2.2.2.2.2.2.2.2.1,(iM,mE))))))))),()))
noncomputable def Ho (x0:bH) (x1:Int) (x2:bU) (x3:sD) (x4:Int):Option Dq :=
bif (x3.1 == 25) then bif (f42 x3.2.2.2.2.1 0 (wI ((x0.2.2.2.2.2.2.2.2.2.1.len:Int) - 1))) then bif (decide (0≤x3.2.2.2.2.1)&&decide (x3.2.2.2.2.1 < (x0.2.2.2.2.2.2.2.2.2.1.len:Int))) then bif ((L.get x0.2.2.2.2.2.2.2.2.2.1 x3.2.2.2.2.1.toNat).2.1 == x1) then bif (decide (0≤x3.2.2.2.2.1)&&decide (x3.2.2.2.2.1 < (x0.2.2.2.2.2.2.2.2.2.1.len:Int))) then bif (decide (0≤x3.2.2.2.2.1)&&decide (x3.2.2.2.2.1 < (x2.2.2.2.2.2.2.2.2.1.len:Int))) then bif (decide (0≤x3.2.2.1)&&decide (x3.2.2.1 < (x2.1.1.len:Int))) then (La (L.get x0.2.2.2.2.2.2.2.2.2.1 x3.2.2.2.2.1.toNat) ((L.get x2.2.2.2.2.2.2.2.2.1 x3.2.2.2.2.1.toNat).1,((L.get x2.2.2.2.2.2.2.2.2.1 x3.2.2.2.2.1.toNat).2.1,())) (L.get x2.1.1 x3.2.2.1.toNat)).bind fun y1=>bif (decide (0≤x3.2.2.2.2.1)&&decide (x3.2.2.2.2.1 < (x2.2.2.2.2.2.2.2.2.1.len:Int))) then zN x2 x2.1 x3.2.1 (IntKind.wrap .u32 (y1.1.2.1)) (L.set x2.2.2.2.2.2.2.2.2.1 x3.2.2.2.2.1.toNat y1.1.1) x2.2.2.2.2.2.2.2.2.2 else none else none else none else none else (gM x2.1 x3.2.1 3).bind fun y3=>some ((0,()),(((y3.2.1.1,((IntKind.wrap .u32 (x2.1.2.1 + 4)),y3.2.1.2.2)),x2.2),())) else none else (gM x2.1 x3.2.1 3).bind fun y4=>some ((0,()),(((y4.2.1.1,((IntKind.wrap .u32 (x2.1.2.1 + 4)),y4.2.1.2.2)),x2.2),())) else bif (x3.1 == 26) then bif (f42 x3.2.2.2.2.1 0 (wI ((x0.2.2.2.2.2.2.2.2.2.1.len:Int) - 1))) then bif (decide (0≤x3.2.2.2.2.1)&&decide (x3.2.2.2.2.1 < (x0.2.2.2.2.2.2.2.2.2.1.len:Int))) then bif ((L.get x0.2.2.2.2.2.2.2.2.2.1 x3.2.2.2.2.1.toNat).2.2.1 == x1) then bif (decide (0≤x3.2.2.2.2.1)&&decide (x3.2.2.2.2.1 < (x0.2.2.2.2.2.2.2.2.2.1.len:Int))) then bif (decide (0≤x3.2.2.2.2.1)&&decide (x3.2.2.2.2.1 < (x2.2.2.2.2.2.2.2.2.2.1.len:Int))) then (Lb (L.get x0.2.2.2.2.2.2.2.2.2.1 x3.2.2.2.2.1.toNat) ((L.get x2.2.2.2.2.2.2.2.2.2.1 x3.2.2.2.2.1.toNat).1,())).bind fun y5=>bif (decide (0≤x3.2.2.2.2.1)&&decide (x3.2.2.2.2.1 < (x2.2.2.2.2.2.2.2.2.2.1.len:Int))) then (gM x2.1 x3.2.1 (IntKind.wrap .u32 (y5.1.2.2.1))).bind fun y6=>zN x2 (y6.2.1.1,(x2.1.2.1,y6.2.1.2.2)) x3.2.2.1 y5.1.2.1 x2.2.2.2.2.2.2.2.2.1 ((L.set x2.2.2.2.2.2.2.2.2.2.1 x3.2.2.2.2.1.toNat y5.1.1),x2.2.2.2.2.2.2.2.2.2.2) else none else none else none else (gM x2.1 x3.2.1 3).bind fun y8=>(gM (y8.2.1.1,(x2.1.2.1,y8.2.1.2.2)) x3.2.2.1 0).bind fun y9=>some ((0,()),(((y9.2.1.1,((IntKind.wrap .u32 (x2.1.2.1 + 4)),y9.2.1.2.2)),x2.2),())) else none else (gM x2.1 x3.2.1 3).bind fun wV=>(gM (wV.2.1.1,(x2.1.2.1,wV.2.1.2.2)) x3.2.2.1 0).bind fun EB=>some ((0,()),(((EB.2.1.1,((IntKind.wrap .u32 (x2.1.2.1 + 4)),EB.2.1.2.2)),x2.2),())) else bif (x3.1 == 27) then bif (f42 x3.2.2.2.2.1 0 (wI ((x0.2.2.2.2.2.2.2.2.1.len:Int) - 1))) then bif (decide (0≤x3.2.2.2.2.1)&&decide (x3.2.2.2.2.1 < (x0.2.2.2.2.2.2.2.2.1.len:Int))) then bif ((L.get x0.2.2.2.2.2.2.2.2.1 x3.2.2.2.2.1.toNat) == x1) then bif (decide (0≤x3.2.2.2.2.1)&&decide (x3.2.2.2.2.1 < (x2.2.2.2.2.2.2.2.2.2.2.1.len:Int))) then (Lc ((L.get x2.2.2.2.2.2.2.2.2.2.2.1 x3.2.2.2.2.1.toNat).1,((L.get x2.2.2.2.2.2.2.2.2.2.2.1 x3.2.2.2.2.1.toNat).2.1,()))).bind fun kY=>bif (decide (0≤x3.2.2.2.2.1)&&decide (x3.2.2.2.2.1 < (x2.2.2.2.2.2.2.2.2.2.2.1.len:Int))) then (gM x2.1 x3.2.1 (IntKind.wrap .u32 (kY.1.2.2.1))).bind fun y13=>zN x2 (y13.2.1.1,(x2.1.2.1,y13.2.1.2.2)) x3.2.2.1 kY.1.2.1 x2.2.2.2.2.2.2.2.2.1 (x2.2.2.2.2.2.2.2.2.2.1,((L.set x2.2.2.2.2.2.2.2.2.2.2.1 x3.2.2.2.2.1.toNat kY.1.1),())) else none else none else (gM x2.1 x3.2.1 3).bind fun Gs=>(gM (Gs.2.1.1,(x2.1.2.1,Gs.2.1.2.2)) x3.2.2.1 0).bind fun BH=>some ((0,()),(((BH.2.1.1,((IntKind.wrap .u32 (x2.1.2.1 + 4)),BH.2.1.2.2)),x2.2),())) else none else (gM x2.1 x3.2.1 3).bind fun EA=>(gM (EA.2.1.1,(x2.1.2.1,EA.2.1.2.2)) x3.2.2.1 0).bind fun mD=>some ((0,()),(((mD.2.1.1,((IntKind.wrap .u32 (x2.1.2.1 + 4)),mD.2.1.2.2)),x2.2),())) else bif (x3.1 == 28) then (T9 x2.2.1 x3.2.2.2.2.1 x4).bind fun Fa=>bif (!Fa.1.2.1) then some ((7,()),(x2,())) else (gM x2.1 x3.2.1 Fa.1.1).bind fun y20=>some ((0,()),(((y20.2.1.1,((IntKind.wrap .u32 (x2.1.2.1 + 4)),y20.2.1.2.2)),x2.2),())) else bif (x3.1 == 29) then bif (decide (0≤x3.2.1)&&decide (x3.2.1 < (x2.1.1.len:Int))) then (Ua x2.2.1 x3.2.2.2.2.1 (L.get x2.1.1 x3.2.1.toNat)).bind fun y21=>bif (!y21.1.2.1) then some ((7,()),(x2,())) else some ((0,()),(((x2.1.1,((IntKind.wrap .u32 (x2.1.2.1 + 4)),x2.1.2.2)),(y21.1.1,x2.2.2)),())) else none else bif (x3.1 == 30) then (Ub x2.2.1).bind fun y22=>bif (!y22.1.2.2.1) then some ((8,()),(x2,())) else some ((0,()),(((x2.1.1,(y22.1.2.1,x2.1.2.2)),(y22.1.1,x2.2.2)),())) else bif (x3.1 == 31) then some ((0,()),(((x2.1.1,((IntKind.wrap .u32 (x2.1.2.1 + 4)),x2.1.2.2)),(x2.2.1,(x2.2.2.1,(x2.2.2.2.1,(x2.2.2.2.2.1,(x2.2.2.2.2.2.1,(true,x2.2.2.2.2.2.2.2))))))),())) else some ((6,()),(x2,()))
noncomputable def afi:E:=⟨140,[],C [.v bA,.v (.int .i64),.pt cZ,.v qB,.v (.int .i64)] [(.int .i64)] fun x=>Ho x.1 x.2.1 x.2.2.1 x.2.2.2.1 x.2.2.2.2.1,fh [w9,aff,U7,afg,afh,aiH,aiI,aiJ] [] Tryz.func140⟩
noncomputable def XM (x0:(Int×(Int×Unit))):Option ((Bool×Unit)×Unit) :=
bif (x0.1 == 1) then some (((f42 x0.2.1 0 100),()),()) else bif (x0.1 == 0) then some (((x0.2.1 == 0),()),()) else bif (x0.1 == 2) then some (((x0.2.1 == 0),()),()) else some ((false,()),())
noncomputable def f261 (x0:(Int×(Int×Unit))):Bool :=
bif (x0.1 == 1) then (f42 x0.2.1 0 100) else bif (x0.1 == 0) then (x0.2.1 == 0) else bif (x0.1 == 2) then (x0.2.1 == 0) else false
theorem n261 (x0:(Int×(Int×Unit))):XM x0 = some ((f261 x0,()),()):=by simp only [XM,f261,bL]
noncomputable def aaj:E:=⟨261,[],C [.v ED] [.bool] fun x=>some ((f261 x.1,()),()),jO [w9] [] (fun x=>XM x.1) Tryz.func261 fun x=>n261 x.1⟩
noncomputable def XO (x0:wT):Option ((Bool×Unit)×Unit) :=
bif (f42 x0.1 0 1000000000) then bif (f42 x0.2.1 0 1000000000) then some (((f42 x0.2.2.1 0 9),()),()) else some ((false,()),()) else some ((false,()),())
noncomputable def f125 (x0:wT):Bool :=
bif (f42 x0.1 0 1000000000) then bif (f42 x0.2.1 0 1000000000) then (f42 x0.2.2.1 0 9) else false else false
theorem n125 (x0:wT):XO x0 = some ((f125 x0,()),()):=by simp only [XO,f125,bL]
noncomputable def aan:E:=⟨125,[],C [.v uZ] [.bool] fun x=>some ((f125 x.1,()),()),jO [w9] [] (fun x=>XO x.1) Tryz.func125 fun x=>n125 x.1⟩
noncomputable def Jr (x0:(Int×(Int×Unit))) (x1:wT) (x2 jM:Int):Option KE :=
bif (x0.1 == 2) then some (((jM,(x1.2.1,(x2,x1.2.2.2))),3,()),()) else bif (x0.1 == 1) then bif (decide (x1.2.1 < x0.2.1)) then some (((jM,((wI (x1.2.1 + 1)),(x2,x1.2.2.2))),2,()),()) else some (((jM,(x1.2.1,(x2,(true,())))),1,()),()) else some (((jM,(x1.2.1,(x2,(true,())))),1,()),())
noncomputable def Uc (x0:(Int×(Int×Unit))) (x1:wT) (x2:Int):Option KE :=
bif (!(f261 x0)) then some ((x1,0,()),()) else bif (!(f125 x1)) then some ((x1,0,()),()) else bif (!(f42 x2 1 9)) then some ((x1,0,()),()) else bif x1.2.2.2.1 then some ((x1,0,()),()) else bif (decide (x1.1 < 1000000000)) then Jr x0 x1 x2 (wI (x1.1 + 1)) else Jr x0 x1 x2 x1.1
noncomputable def aiK:E:=⟨141,[],C [.v ED,.v uZ,.v (.int .i64)] [uZ,(.int .i64)] fun x=>Uc x.1 x.2.1 x.2.2.1,fh [aaj,aan,w9] [] Tryz.func141⟩
noncomputable def qV:(((Unit×(Int×Unit))×xQ))→Option (((Unit×(Int×Unit))×xQ)⊕(O4⊕Empty)):=fun ⟨⟨_,t6,_⟩,⟨_,uG,_,uH,uI,uJ,uK,uN,uO,uP,uQ,uR,uS,uT,uE,uU,uV,uW,_,uX,_,uY,u4,_⟩,u5,w8,kc,kd,u6,uA,u7,uu,_⟩ =>
bif (decide (t6 < (uA.len:Int))) then bif (decide (0≤t6)&&decide (t6 < (uA.len:Int))) then some (.inl (((),((wI (t6 + 1)),())),(((),(uG,((),(uH,(uI,(uJ,(uK,(uN,(uO,(uP,(uQ,(uR,(uS,(uT,(uE,(uU,(uV,(uW,((),(uX,((),(uY,(u4,((),((),((),((),()))))))))))))))))))))))))))),(u5,(w8,(kc,(kd,(u6,((L.upd uA t6.toNat fun e=>(e.1,((L.of (Ty.zero (.int .u32)) []),e.2.2))),(u7,(uu,()))))))))))) else none else some (.inr (.inl ((),(((),(uG,((),(uH,(uI,(uJ,(uK,(uN,(uO,(uP,(uQ,(uR,(uS,(uT,(uE,(uU,(uV,(uW,((),(uX,((),(uY,(u4,((),((),((),((),()))))))))))))))))))))))))))),(u5,(w8,(kc,(kd,(u6,(uA,(u7,(uu,()))))))))))))
noncomputable def Hq (x0:bH) (x1:Int) (x2:bU):Option O5 :=
(Hf x0 x1 x2.2.2.2.2.2.2.2.1).bind fun y1=>(aL qV (((),(0,())),(((),(y1.1.1.2.1,((),(false,(0,(0,(0,(0,(false,(false,(0,(x2.2.2.1.1,(x2.2.2.1.2.1,(x2.2.2.1.2.2.1,(x2.2.2.1.2.2.2.1,(x2.2.2.2.1.1.1,(x2.2.2.2.1.1.2.1,(x2.2.2.2.1.1.2.2.1,((),(x2.2.2.2.2.1.1,((),(x2.2.2.2.2.2.1,(x2.2.2.2.2.2.2.1,((),((),((),((),()))))))))))))))))))))))))))),(y1.1.1.1,(y1.1.1.2.2.1,(x2.2.2.2.1.2.1,(x2.2.2.2.2.1.2.1,x2.2.2.2.2.2.2.2))))))).bind fun d3=>match d3 with | .inl y2=>some ((),(((y2.2.2.1,(y2.2.1.2.1,(y2.2.2.2.1,()))),((y2.2.1.2.2.2.1,(y2.2.1.2.2.2.2.1,(y2.2.1.2.2.2.2.2.1,(y2.2.1.2.2.2.2.2.2.1,(y2.2.1.2.2.2.2.2.2.2.1,(y2.2.1.2.2.2.2.2.2.2.2.1,(y2.2.1.2.2.2.2.2.2.2.2.2.1,(y2.2.1.2.2.2.2.2.2.2.2.2.2.1,())))))))),((y2.2.1.2.2.2.2.2.2.2.2.2.2.2.1,(y2.2.1.2.2.2.2.2.2.2.2.2.2.2.2.1,(y2.2.1.2.2.2.2.2.2.2.2.2.2.2.2.2.1,(y2.2.1.2.2.2.2.2.2.2.2.2.2.2.2.2.2.1,())))),(((y2.2.1.2.2.2.2.2.2.2.2.2.2.2.2.2.2.2.1,(y2.2.1.2.2.2.2.2.2.2.2.2.2.2.2.2.2.2.2.1,(y2.2.1.2.2.2.2.2.2.2.2.2.2.2.2.2.2.2.2.2.1,()))),(y2.2.2.2.2.1,())),((y2.2.1.2.2.2.2.2.2.2.2.2.2.2.2.2.2.2.2.2.2.2.1,(y2.2.2.2.2.2.1,())),(y2.2.1.2.2.2.2.2.2.2.2.2.2.2.2.2.2.2.2.2.2.2.2.2.1,(y2.2.1.2.2.2.2.2.2.2.2.2.2.2.2.2.2.2.2.2.2.2.2.2.2.1,y2.2.2.2.2.2.2))))))),())) | .inr e=>nomatch e
noncomputable def afj:E:=⟨142,[],C [.v bA,.v (.int .i64),.pt cZ] [] fun x=>Hq x.1 x.2.1 x.2.2.1,fh [U4] [(0,fx ⟨[(2,.bx 100000128 0),(6,.v (.int .i64))],[(100000128,.cells [.ms 1000896,.v (.int .u32),.ms 1000897,.v .bool,.v (.int .u32),.v (.int .u32),.v (.int .u32),.v (.int .u32),.v .bool,.v .bool,.v (.int .u32),.v (.int .i64),.v (.int .i64),.v (.int .i64),.v .bool,.v (.int .i64),.v (.int .i64),.v (.int .i64),.ms 100000131,.v (.int .i64),.ms 100000132,.v (.int .i64),.v .bool,.ms 100000133,.ms 100000134,.ms 100000135,.ms 100000136]),(1000896,.row (.int .u32)),(1000897,.row (.sl (.int .u8))),(100000131,.row bS),(100000132,.row (.int .i64)),(100000133,.row (.sl (.int .u8))),(100000134,.row bN),(100000135,.row eu),(100000136,.row bQ)]⟩ [(.exit 0,⟨[],[(100000128,.cells [.ms 1000896,.v (.int .u32),.ms 1000897,.v .bool,.v (.int .u32),.v (.int .u32),.v (.int .u32),.v (.int .u32),.v .bool,.v .bool,.v (.int .u32),.v (.int .i64),.v (.int .i64),.v (.int .i64),.v .bool,.v (.int .i64),.v (.int .i64),.v (.int .i64),.ms 100000131,.v (.int .i64),.ms 100000132,.v (.int .i64),.v .bool,.ms 100000133,.ms 100000134,.ms 100000135,.ms 100000136]),(1000896,.row (.int .u32)),(1000897,.row (.sl (.int .u8))),(100000131,.row bS),(100000132,.row (.int .i64)),(100000133,.row (.sl (.int .u8))),(100000134,.row bN),(100000135,.row eu),(100000136,.row bQ)]⟩)] qV)] Tryz.func142⟩
noncomputable def xw (x3:Int) (x0:bH) (x2:bU) (aiL:kQ) (afk aiM aiN aiO:Int) (aiP:kQ) (aiQ:iU) (afl:wT) (QC:bU):Option Gw :=
(Qz aiL.1).bind fun aiR=>some (((x3,((wI (afk + x0.2.2.2.1.2.2.2.2.2.1)),(x2.1.2.1,(aiM,(aiN,(aiO,aiR.1)))))),()),((aiP,(aiQ,(afl,(QC.2.2.2.1,(QC.2.2.2.2.1,((wI (x3 + (wI (afk + x0.2.2.2.1.2.2.2.2.2.1)))),QC.2.2.2.2.2.2)))))),()))
noncomputable def BD (x1:Int) (x0:bH) (x3:Int) (x2:bU) (y5:xP) (mE:Int) (nG:bU) (lu:kQ) (sG:Int):Option Gw :=
bif (mE != 0) then bif (decide (0≤x1)&&decide (x1 < (x0.2.2.2.2.2.2.2.1.len:Int))) then (Uc (L.get x0.2.2.2.2.2.2.2.1 x1.toNat).2.2.1 nG.2.2.1 mE).bind fun cO=>bif (cO.1.2.1 == 3) then bif (cO.1.2.1 == 2) then (Hq x0 x1 ((lu.1,((IntKind.wrap .u32 (lu.2.1 + 4)),lu.2.2)),(nG.2.1,(cO.1.1,nG.2.2.2)))).bind fun eZ=>xw x3 x0 x2 eZ.2.1.1 sG y5.1.1.2.2.1 mE 0 eZ.2.1.1 eZ.2.1.2.1 eZ.2.1.2.2.1 eZ.2.1 else xw x3 x0 x2 lu sG y5.1.1.2.2.1 mE 0 (lu.1,((IntKind.wrap .u32 (lu.2.1 + 4)),lu.2.2)) nG.2.1 cO.1.1 nG else bif (cO.1.2.1 == 2) then (Hq x0 x1 (lu,(nG.2.1,(cO.1.1,nG.2.2.2)))).bind fun lU=>xw x3 x0 x2 lU.2.1.1 sG y5.1.1.2.2.1 mE 0 lU.2.1.1 lU.2.1.2.1 lU.2.1.2.2.1 lU.2.1 else xw x3 x0 x2 lu sG y5.1.1.2.2.1 mE 0 lu nG.2.1 cO.1.1 nG else none else (Qz lu.1).bind fun TW=>some (((x3,(sG,(x2.1.2.1,(y5.1.1.2.2.1,(mE,(0,TW.1)))))),()),((lu,(nG.2.1,(nG.2.2.1,(nG.2.2.2.1,(nG.2.2.2.2.1,((wI (x3 + sG)),nG.2.2.2.2.2.2)))))),()))
noncomputable def BF (y5:xP) (x0:bH) (y4:((Int×(Int×Unit))×Unit)) (x1 x3:Int) (x2 Gt:bU) (Bn:Int) (O7:bU) (WR:kQ):Option Gw :=
bif (decide (y5.1.1.2.2.2.1 ≥ 0)) then (DI x0 Gt y5.1.1.2.2.2.1 y5.1.1.2.2.2.2.1).bind fun Hl=>bif y5.1.1.2.2.2.2.2.1 then (MR y4.1.1).bind fun aiS=>(Ho x0 x1 Hl.2.1 aiS.1.1 x3).bind fun XP=>BD x1 x0 x3 x2 y5 XP.1.1 XP.2.1 XP.2.1.1 (wI (Bn + Hl.1.1)) else BD x1 x0 x3 x2 y5 y5.1.1.2.1 Hl.2.1 Hl.2.1.1 (wI (Bn + Hl.1.1)) else bif y5.1.1.2.2.2.2.2.1 then (MR y4.1.1).bind fun aiT=>(Ho x0 x1 Gt aiT.1.1 x3).bind fun XQ=>BD x1 x0 x3 x2 y5 XQ.1.1 XQ.2.1 XQ.2.1.1 Bn else BD x1 x0 x3 x2 y5 y5.1.1.2.1 O7 WR Bn
noncomputable def Pw (x0:bH) (x1:Int) (x2:bU) (x3:Int):Option Gw :=
(TS x2.2.1 x3).bind fun y1=>bif (y1.1.1 != 0) then (TT x2.2.1 y1.1.1 x2.1.2.1).bind fun y2=>xw x3 x0 x2 x2.1 x0.2.2.2.1.1 (-1:Int) 0 y1.1.1 (x2.1.1,(y2.1.2.1,x2.1.2.2)) y2.1.1 x2.2.2.1 x2 else bif (decide (0≤x1)&&decide (x1 < (x0.2.2.2.2.2.2.2.1.len:Int))) then (QB (L.get x0.2.2.2.2.2.2.2.1 x1.toNat).2.2.2.1 x2.1).bind fun y4=>(EU (L.get x0.2.2.2.2.2.2.2.1 x1.toNat).2.2.2.1 x2.1 x3).bind fun y5=>bif (decide (y5.1.1.2.2.1 ≥ 0)) then (GJ x0.2.2.2.1 y5.1.1.2.2.1).bind fun y6=>bif (y4.1.2.1 == 0) then (DI x0 (y5.1.1.1,x2.2) (wI (x2.1.2.1)) false).bind fun y7=>BF y5 x0 y4 x1 x3 x2 y7.2.1 (wI (y6.1.1 + y7.1.1)) y7.2.1 y7.2.1.1 else BF y5 x0 y4 x1 x3 x2 (y5.1.1.1,x2.2) y6.1.1 x2 y5.1.1.1 else bif (y4.1.2.1 == 0) then (DI x0 (y5.1.1.1,x2.2) (wI (x2.1.2.1)) false).bind fun y82=>BF y5 x0 y4 x1 x3 x2 y82.2.1 (wI (x0.2.2.2.1.1 + y82.1.1)) y82.2.1 y82.2.1.1 else BF y5 x0 y4 x1 x3 x2 (y5.1.1.1,x2.2) x0.2.2.2.1.1 x2 y5.1.1.1 else none
noncomputable def aap:E:=⟨44,[],C [.v bA,.v (.int .i64),.pt cZ,.v (.int .i64)] [Gv] fun x=>Pw x.1 x.2.1 x.2.2.1 x.2.2.2.1,fh [aiw,aix,aiy,ae7,XI,aeU,afe,ae8,afi,aiK,afj] [] Tryz.func44⟩
noncomputable def EW (y1:KV) (y2 y3 y4 y5:Jj) (y6 y7:KV) (lu:nL) (sG:Int):Option (GY×nL) :=
(iG lu.1 3).bind fun cO=>bif cO.1.1 then (vR cO.2.1).bind fun eZ=>some ((((!y1.1.1),(y2.1.1,(y3.1.1,((IntKind.wrap .u32 (y4.1.1)),((IntKind.wrap .u32 (y5.1.1)),(y6.1.1,(y7.1.1,eZ.1))))))),()),(eZ.2.1,())) else some ((((!y1.1.1),(y2.1.1,(y3.1.1,((IntKind.wrap .u32 (y4.1.1)),((IntKind.wrap .u32 (y5.1.1)),(y6.1.1,(y7.1.1,(sG,())))))))),()),(cO.2.1,()))
noncomputable def Ld (x0:jE):Option (GY×nL) :=
(iG x0 4).bind fun y1=>(vR y1.2.1).bind fun y2=>(vR y2.2.1).bind fun y3=>(bB y3.2.1 34).bind fun y4=>(bB y4.2.1 500).bind fun y5=>(iG y5.2.1 2).bind fun y6=>(iG y6.2.1 4).bind fun y7=>(iG y7.2.1 2).bind fun y8=>bif y8.1.1 then (bB y8.2.1 32).bind fun y9=>bif (decide (0≤(IntKind.wrap .u64 (y9.1.1)))) then EW y1 y2 y3 y4 y5 y6 y7 y9.2 (kW .u32 1 (IntKind.wrap .u64 (y9.1.1))) else none else EW y1 y2 y3 y4 y5 y6 y7 y8.2 0
noncomputable def afm:E:=⟨197,[],C [.pd dw] [iF] fun x=>Ld x.1,fh [DF,Qv,qP] [] Tryz.func197⟩
noncomputable def vX:(KY)→Option (KY⊕(((Unit×((L Int)×Xm))×Dz)⊕Empty)):=fun ⟨⟨_,t1,_,_,_,t9,_,t11,t12,_⟩,vd,_,_,b8,⟨_,vj,_,vl,vm,vn,vp,vq,vr,vt,vu,vw,vx,vy,vf,vz,vA,vB,_,vE,_,vG,vg,_⟩,vI,vK,v8,v9,ua,vh,ve,vi,_⟩ =>
bif (decide (t12 < (b8.2.2.2.2.2.2.2.2.2.1.len:Int))) then bif (decide (0≤t12)&&decide (t12 < (b8.2.2.2.2.2.2.2.2.2.1.len:Int))) then bif ((L.get b8.2.2.2.2.2.2.2.2.2.1 t12.toNat).2.1 == t9) then (iG vd 2).bind fun y8=>bif y8.1.1 then (kV y8.2.1 1).bind fun y9=>bif (decide (0≤t12)&&decide (t12 < (vh.len:Int))) then bif (decide (0≤t12)&&decide (t12 < (b8.2.2.2.2.2.2.2.2.2.1.len:Int))) then bif ((L.get b8.2.2.2.2.2.2.2.2.2.1 t12.toNat).2.2.1 == t9) then (iG y9.2.1 2).bind fun wV=>bif wV.1.1 then (kV wV.2.1 1).bind fun EB=>bif (decide (0≤t12)&&decide (t12 < (ve.len:Int))) then some (.inl (((),(t1,((),((),((),(t9,((),(t11,((wI (t12 + 1)),()))))))))),(EB.2.1,(((),((),((),((),((),((),((),((),((),((),((),((),((),((),((),((),((),((),((),()))))))))))))))))))),(((),((),((),((),((),((),((),((),((),((),((),((),((),((),((),((),((),((),((),((),((),((),((),((),((),((),((),()))))))))))))))))))))))))))),(b8,(((),(vj,((),(vl,(vm,(vn,(vp,(vq,(vr,(vt,(vu,(vw,(vx,(vy,(vf,(vz,(vA,(vB,((),(vE,((),(vG,(vg,((),((),((),((),()))))))))))))))))))))))))))),(vI,(vK,(v8,(v9,(ua,((L.upd vh t12.toNat fun e=>(e.1,(y9.1.1,e.2.2))),((L.set ve t12.toNat EB.1),(vi,()))))))))))))))) else none else some (.inl (((),(t1,((),((),((),(t9,((),(t11,((wI (t12 + 1)),()))))))))),(wV.2.1,(((),((),((),((),((),((),((),((),((),((),((),((),((),((),((),((),((),((),((),()))))))))))))))))))),(((),((),((),((),((),((),((),((),((),((),((),((),((),((),((),((),((),((),((),((),((),((),((),((),((),((),((),()))))))))))))))))))))))))))),(b8,(((),(vj,((),(vl,(vm,(vn,(vp,(vq,(vr,(vt,(vu,(vw,(vx,(vy,(vf,(vz,(vA,(vB,((),(vE,((),(vG,(vg,((),((),((),((),()))))))))))))))))))))))))))),(vI,(vK,(v8,(v9,(ua,((L.upd vh t12.toNat fun e=>(e.1,(y9.1.1,e.2.2))),(ve,(vi,()))))))))))))))) else some (.inl (((),(t1,((),((),((),(t9,((),(t11,((wI (t12 + 1)),()))))))))),(y9.2.1,(((),((),((),((),((),((),((),((),((),((),((),((),((),((),((),((),((),((),((),()))))))))))))))))))),(((),((),((),((),((),((),((),((),((),((),((),((),((),((),((),((),((),((),((),((),((),((),((),((),((),((),((),()))))))))))))))))))))))))))),(b8,(((),(vj,((),(vl,(vm,(vn,(vp,(vq,(vr,(vt,(vu,(vw,(vx,(vy,(vf,(vz,(vA,(vB,((),(vE,((),(vG,(vg,((),((),((),((),()))))))))))))))))))))))))))),(vI,(vK,(v8,(v9,(ua,((L.upd vh t12.toNat fun e=>(e.1,(y9.1.1,e.2.2))),(ve,(vi,()))))))))))))))) else none else none else bif (decide (0≤t12)&&decide (t12 < (b8.2.2.2.2.2.2.2.2.2.1.len:Int))) then bif ((L.get b8.2.2.2.2.2.2.2.2.2.1 t12.toNat).2.2.1 == t9) then (iG y8.2.1 2).bind fun kY=>bif kY.1.1 then (kV kY.2.1 1).bind fun y13=>bif (decide (0≤t12)&&decide (t12 < (ve.len:Int))) then some (.inl (((),(t1,((),((),((),(t9,((),(t11,((wI (t12 + 1)),()))))))))),(y13.2.1,(((),((),((),((),((),((),((),((),((),((),((),((),((),((),((),((),((),((),((),()))))))))))))))))))),(((),((),((),((),((),((),((),((),((),((),((),((),((),((),((),((),((),((),((),((),((),((),((),((),((),((),((),()))))))))))))))))))))))))))),(b8,(((),(vj,((),(vl,(vm,(vn,(vp,(vq,(vr,(vt,(vu,(vw,(vx,(vy,(vf,(vz,(vA,(vB,((),(vE,((),(vG,(vg,((),((),((),((),()))))))))))))))))))))))))))),(vI,(vK,(v8,(v9,(ua,(vh,((L.set ve t12.toNat y13.1),(vi,()))))))))))))))) else none else some (.inl (((),(t1,((),((),((),(t9,((),(t11,((wI (t12 + 1)),()))))))))),(kY.2.1,(((),((),((),((),((),((),((),((),((),((),((),((),((),((),((),((),((),((),((),()))))))))))))))))))),(((),((),((),((),((),((),((),((),((),((),((),((),((),((),((),((),((),((),((),((),((),((),((),((),((),((),((),()))))))))))))))))))))))))))),(b8,(((),(vj,((),(vl,(vm,(vn,(vp,(vq,(vr,(vt,(vu,(vw,(vx,(vy,(vf,(vz,(vA,(vB,((),(vE,((),(vG,(vg,((),((),((),((),()))))))))))))))))))))))))))),(vI,(vK,(v8,(v9,(ua,(vh,(ve,(vi,()))))))))))))))) else some (.inl (((),(t1,((),((),((),(t9,((),(t11,((wI (t12 + 1)),()))))))))),(y8.2.1,(((),((),((),((),((),((),((),((),((),((),((),((),((),((),((),((),((),((),((),()))))))))))))))))))),(((),((),((),((),((),((),((),((),((),((),((),((),((),((),((),((),((),((),((),((),((),((),((),((),((),((),((),()))))))))))))))))))))))))))),(b8,(((),(vj,((),(vl,(vm,(vn,(vp,(vq,(vr,(vt,(vu,(vw,(vx,(vy,(vf,(vz,(vA,(vB,((),(vE,((),(vG,(vg,((),((),((),((),()))))))))))))))))))))))))))),(vI,(vK,(v8,(v9,(ua,(vh,(ve,(vi,()))))))))))))))) else none else bif (decide (0≤t12)&&decide (t12 < (b8.2.2.2.2.2.2.2.2.2.1.len:Int))) then bif ((L.get b8.2.2.2.2.2.2.2.2.2.1 t12.toNat).2.2.1 == t9) then (iG vd 2).bind fun ME=>bif ME.1.1 then (kV ME.2.1 1).bind fun Gs=>bif (decide (0≤t12)&&decide (t12 < (ve.len:Int))) then some (.inl (((),(t1,((),((),((),(t9,((),(t11,((wI (t12 + 1)),()))))))))),(Gs.2.1,(((),((),((),((),((),((),((),((),((),((),((),((),((),((),((),((),((),((),((),()))))))))))))))))))),(((),((),((),((),((),((),((),((),((),((),((),((),((),((),((),((),((),((),((),((),((),((),((),((),((),((),((),()))))))))))))))))))))))))))),(b8,(((),(vj,((),(vl,(vm,(vn,(vp,(vq,(vr,(vt,(vu,(vw,(vx,(vy,(vf,(vz,(vA,(vB,((),(vE,((),(vG,(vg,((),((),((),((),()))))))))))))))))))))))))))),(vI,(vK,(v8,(v9,(ua,(vh,((L.set ve t12.toNat Gs.1),(vi,()))))))))))))))) else none else some (.inl (((),(t1,((),((),((),(t9,((),(t11,((wI (t12 + 1)),()))))))))),(ME.2.1,(((),((),((),((),((),((),((),((),((),((),((),((),((),((),((),((),((),((),((),()))))))))))))))))))),(((),((),((),((),((),((),((),((),((),((),((),((),((),((),((),((),((),((),((),((),((),((),((),((),((),((),((),()))))))))))))))))))))))))))),(b8,(((),(vj,((),(vl,(vm,(vn,(vp,(vq,(vr,(vt,(vu,(vw,(vx,(vy,(vf,(vz,(vA,(vB,((),(vE,((),(vG,(vg,((),((),((),((),()))))))))))))))))))))))))))),(vI,(vK,(v8,(v9,(ua,(vh,(ve,(vi,()))))))))))))))) else some (.inl (((),(t1,((),((),((),(t9,((),(t11,((wI (t12 + 1)),()))))))))),(vd,(((),((),((),((),((),((),((),((),((),((),((),((),((),((),((),((),((),((),((),()))))))))))))))))))),(((),((),((),((),((),((),((),((),((),((),((),((),((),((),((),((),((),((),((),((),((),((),((),((),((),((),((),()))))))))))))))))))))))))))),(b8,(((),(vj,((),(vl,(vm,(vn,(vp,(vq,(vr,(vt,(vu,(vw,(vx,(vy,(vf,(vz,(vA,(vB,((),(vE,((),(vG,(vg,((),((),((),((),()))))))))))))))))))))))))))),(vI,(vK,(v8,(v9,(ua,(vh,(ve,(vi,()))))))))))))))) else none else none else some (.inr (.inl (((),(t1,((),((),((),(t9,((),(t11,())))))))),(vd,(((),((),((),((),((),((),((),((),((),((),((),((),((),((),((),((),((),((),((),()))))))))))))))))))),(((),((),((),((),((),((),((),((),((),((),((),((),((),((),((),((),((),((),((),((),((),((),((),((),((),((),((),()))))))))))))))))))))))))))),(b8,(((),(vj,((),(vl,(vm,(vn,(vp,(vq,(vr,(vt,(vu,(vw,(vx,(vy,(vf,(vz,(vA,(vB,((),(vE,((),(vG,(vg,((),((),((),((),()))))))))))))))))))))))))))),(vI,(vK,(v8,(v9,(ua,(vh,(ve,(vi,()))))))))))))))))
noncomputable def vY:(KY)→Option (KY⊕(((Unit×((L Int)×Xm))×Dz)⊕Empty)):=fun ⟨⟨_,t1,_,_,_,t9,_,t11,nE,_⟩,vd,_,_,b8,⟨_,vj,_,vl,vm,vn,vp,vq,vr,vt,vu,vw,vx,vy,vf,vz,vA,vB,_,vE,_,vG,vg,_⟩,vI,vK,v8,v9,ua,vh,ve,vi,_⟩ =>
bif (decide (nE < (b8.2.2.2.2.2.2.2.2.1.len:Int))) then bif (decide (0≤nE)&&decide (nE < (b8.2.2.2.2.2.2.2.2.1.len:Int))) then bif ((L.get b8.2.2.2.2.2.2.2.2.1 nE.toNat) == t9) then (iG vd 2).bind fun EA=>bif EA.1.1 then (bB EA.2.1 4).bind fun mD=>(kV mD.2.1 mD.1.1).bind fun Fa=>(bB Fa.2.1 4).bind fun y20=>(kV y20.2.1 y20.1.1).bind fun y21=>bif (decide (0≤nE)&&decide (nE < (vi.len:Int))) then some (.inl (((),(t1,((),((),((),(t9,((),(t11,((wI (nE + 1)),()))))))))),(y21.2.1,(((),((),((),((),((),((),((),((),((),((),((),((),((),((),((),((),((),((),((),()))))))))))))))))))),(((),((),((),((),((),((),((),((),((),((),((),((),((),((),((),((),((),((),((),((),((),((),((),((),((),((),((),()))))))))))))))))))))))))))),(b8,(((),(vj,((),(vl,(vm,(vn,(vp,(vq,(vr,(vt,(vu,(vw,(vx,(vy,(vf,(vz,(vA,(vB,((),(vE,((),(vG,(vg,((),((),((),((),()))))))))))))))))))))))))))),(vI,(vK,(v8,(v9,(ua,(vh,(ve,((L.set vi nE.toNat (Fa.1.1,y21.1)),()))))))))))))))) else none else some (.inl (((),(t1,((),((),((),(t9,((),(t11,((wI (nE + 1)),()))))))))),(EA.2.1,(((),((),((),((),((),((),((),((),((),((),((),((),((),((),((),((),((),((),((),()))))))))))))))))))),(((),((),((),((),((),((),((),((),((),((),((),((),((),((),((),((),((),((),((),((),((),((),((),((),((),((),((),()))))))))))))))))))))))))))),(b8,(((),(vj,((),(vl,(vm,(vn,(vp,(vq,(vr,(vt,(vu,(vw,(vx,(vy,(vf,(vz,(vA,(vB,((),(vE,((),(vG,(vg,((),((),((),((),()))))))))))))))))))))))))))),(vI,(vK,(v8,(v9,(ua,(vh,(ve,(vi,()))))))))))))))) else some (.inl (((),(t1,((),((),((),(t9,((),(t11,((wI (nE + 1)),()))))))))),(vd,(((),((),((),((),((),((),((),((),((),((),((),((),((),((),((),((),((),((),((),()))))))))))))))))))),(((),((),((),((),((),((),((),((),((),((),((),((),((),((),((),((),((),((),((),((),((),((),((),((),((),((),((),()))))))))))))))))))))))))))),(b8,(((),(vj,((),(vl,(vm,(vn,(vp,(vq,(vr,(vt,(vu,(vw,(vx,(vy,(vf,(vz,(vA,(vB,((),(vE,((),(vG,(vg,((),((),((),((),()))))))))))))))))))))))))))),(vI,(vK,(v8,(v9,(ua,(vh,(ve,(vi,()))))))))))))))) else none else some (.inr (.inl (((),(t1,((),((),((),(t9,((),(t11,())))))))),(vd,(((),((),((),((),((),((),((),((),((),((),((),((),((),((),((),((),((),((),((),()))))))))))))))))))),(((),((),((),((),((),((),((),((),((),((),((),((),((),((),((),((),((),((),((),((),((),((),((),((),((),((),((),()))))))))))))))))))))))))))),(b8,(((),(vj,((),(vl,(vm,(vn,(vp,(vq,(vr,(vt,(vu,(vw,(vx,(vy,(vf,(vz,(vA,(vB,((),(vE,((),(vG,(vg,((),((),((),((),()))))))))))))))))))))))))))),(vI,(vK,(v8,(v9,(ua,(vh,(ve,(vi,()))))))))))))))))
noncomputable def vZ:(((Unit×(Unit×(Unit×(Unit×TI))))×Dz))→Option (((Unit×(Unit×(Unit×(Unit×TI))))×Dz)⊕(Qn⊕Empty)):=fun ⟨⟨_,_,_,_,t9,_,t11,fH,ug,_⟩,vd,_,_,b8,⟨_,vj,_,vl,vm,vn,vp,vq,vr,vt,vu,vw,vx,vy,vf,vz,vA,vB,_,vE,_,vG,vg,_⟩,vI,vK,v8,v9,ua,vh,ve,vi,_⟩ =>
bif (decide (ug < fH)) then bif (!vg) then bif (!vf) then (Pw b8 t9 ((vI,(vj,(vK,()))),((vl,(vm,(vn,(vp,(vq,(vr,(vt,(vu,())))))))),((vw,(vx,(vy,(vf,())))),(((vz,(vA,(vB,()))),(v8,())),((vE,(v9,())),(vG,(vg,(ua,(vh,(ve,(vi,()))))))))))) t11).bind fun y24=>some (.inl (((),((),((),((),(t9,((),(y24.2.1.2.2.2.2.2.1,(fH,((wI (ug + 1)),()))))))))),(vd,(((),((),((),((),((),((),((),((),((),((),((),((),((),((),((),((),((),((),((),()))))))))))))))))))),(((),((),((),((),((),((),((),((),((),((),((),((),((),((),((),((),((),((),((),((),((),((),((),((),((),((),((),()))))))))))))))))))))))))))),(b8,(((),(y24.2.1.1.2.1,((),(y24.2.1.2.1.1,(y24.2.1.2.1.2.1,(y24.2.1.2.1.2.2.1,(y24.2.1.2.1.2.2.2.1,(y24.2.1.2.1.2.2.2.2.1,(y24.2.1.2.1.2.2.2.2.2.1,(y24.2.1.2.1.2.2.2.2.2.2.1,(y24.2.1.2.1.2.2.2.2.2.2.2.1,(y24.2.1.2.2.1.1,(y24.2.1.2.2.1.2.1,(y24.2.1.2.2.1.2.2.1,(y24.2.1.2.2.1.2.2.2.1,(y24.2.1.2.2.2.1.1.1,(y24.2.1.2.2.2.1.1.2.1,(y24.2.1.2.2.2.1.1.2.2.1,((),(y24.2.1.2.2.2.2.1.1,((),(y24.2.1.2.2.2.2.2.1,(y24.2.1.2.2.2.2.2.2.1,((),((),((),((),()))))))))))))))))))))))))))),(y24.2.1.1.1,(y24.2.1.1.2.2.1,(y24.2.1.2.2.2.1.2.1,(y24.2.1.2.2.2.2.1.2.1,y24.2.1.2.2.2.2.2.2.2))))))))))) else some (.inr (.inl (((),((),((),((),(t9,((),(t11,()))))))),(vd,(((),((),((),((),((),((),((),((),((),((),((),((),((),((),((),((),((),((),((),()))))))))))))))))))),(((),((),((),((),((),((),((),((),((),((),((),((),((),((),((),((),((),((),((),((),((),((),((),((),((),((),((),()))))))))))))))))))))))))))),(b8,(((),(vj,((),(vl,(vm,(vn,(vp,(vq,(vr,(vt,(vu,(vw,(vx,(vy,(vf,(vz,(vA,(vB,((),(vE,((),(vG,(vg,((),((),((),((),()))))))))))))))))))))))))))),(vI,(vK,(v8,(v9,(ua,(vh,(ve,(vi,())))))))))))))))) else some (.inr (.inl (((),((),((),((),(t9,((),(t11,()))))))),(vd,(((),((),((),((),((),((),((),((),((),((),((),((),((),((),((),((),((),((),((),()))))))))))))))))))),(((),((),((),((),((),((),((),((),((),((),((),((),((),((),((),((),((),((),((),((),((),((),((),((),((),((),((),()))))))))))))))))))))))))))),(b8,(((),(vj,((),(vl,(vm,(vn,(vp,(vq,(vr,(vt,(vu,(vw,(vx,(vy,(vf,(vz,(vA,(vB,((),(vE,((),(vG,(vg,((),((),((),((),()))))))))))))))))))))))))))),(vI,(vK,(v8,(v9,(ua,(vh,(ve,(vi,())))))))))))))))) else some (.inr (.inl (((),((),((),((),(t9,((),(t11,()))))))),(vd,(((),((),((),((),((),((),((),((),((),((),((),((),((),((),((),((),((),((),((),()))))))))))))))))))),(((),((),((),((),((),((),((),((),((),((),((),((),((),((),((),((),((),((),((),((),((),((),((),((),((),((),((),()))))))))))))))))))))))))))),(b8,(((),(vj,((),(vl,(vm,(vn,(vp,(vq,(vr,(vt,(vu,(vw,(vx,(vy,(vf,(vz,(vA,(vB,((),(vE,((),(vG,(vg,((),((),((),((),()))))))))))))))))))))))))))),(vI,(vK,(v8,(v9,(ua,(vh,(ve,(vi,()))))))))))))))))
noncomputable def Js (y25:Qn) (wY:Bool) (jM:Int) (iM:Xl) (aiU aiV Gt:Int) (Bn:(Bool×Unit)) (O7:KV):Option Ql :=
some ((y25.2.2.2.2.1,y25.1.2.2.2.2.1,((y25.2.2.2.2.2.2.1,(y25.2.2.2.2.2.1.2.1,(y25.2.2.2.2.2.2.2.1,()))),((wY,(jM,iM)),((aiU,(aiV,(Gt,Bn))),(((y25.2.2.2.2.2.1.2.2.2.2.2.2.2.2.2.2.2.2.2.2.2.1,(y25.2.2.2.2.2.1.2.2.2.2.2.2.2.2.2.2.2.2.2.2.2.2.1,(y25.2.2.2.2.2.1.2.2.2.2.2.2.2.2.2.2.2.2.2.2.2.2.2.1,()))),(y25.2.2.2.2.2.2.2.2.1,())),((y25.2.2.2.2.2.1.2.2.2.2.2.2.2.2.2.2.2.2.2.2.2.2.2.2.2.1,(y25.2.2.2.2.2.2.2.2.2.1,())),(y25.2.2.2.2.2.1.2.2.2.2.2.2.2.2.2.2.2.2.2.2.2.2.2.2.2.2.2.1,(y25.2.2.2.2.2.1.2.2.2.2.2.2.2.2.2.2.2.2.2.2.2.2.2.2.2.2.2.2.1,y25.2.2.2.2.2.2.2.2.2.2))))))),y25.1.2.2.2.2.2.2.1,()),(O7.2.1,()))
noncomputable def Jt (y25:Qn) (wW:nL) (wY:Bool) (jM:Int) (iM:Xl):Option Ql :=
(iG wW.1 6).bind fun cO=>bif cO.1.1 then (iG cO.2.1 2).bind fun eZ=>Js y25 wY jM iM 3 1 2 eZ.1 eZ else Js y25 wY jM iM y25.2.2.2.2.2.1.2.2.2.2.2.2.2.2.2.2.2.1 y25.2.2.2.2.2.1.2.2.2.2.2.2.2.2.2.2.2.2.1 y25.2.2.2.2.2.1.2.2.2.2.2.2.2.2.2.2.2.2.2.1 (y25.2.2.2.2.2.1.2.2.2.2.2.2.2.2.2.2.2.2.2.2.1,()) cO
noncomputable def Ud (x0:jE) (x1:(L Int)):Option Ql :=
(bB x0 2).bind fun y1=>(KU y1.2.1 (wI (2 + y1.1.1))).bind fun y2=>(bB y2.2.1 (y2.1.1.2.2.2.2.2.2.2.1.len:Int)).bind fun y3=>(ET y3.2.1 y2.1.1 y3.1.1).bind fun y4=>(K5 y2.1.1 y3.1.1 y4.1.1).bind fun y5=>(bB y4.2.1 300).bind fun y6=>(K7 y2.1.1 y3.1.1 y5.1.1 y6.1.1).bind fun y7=>(aL vX (((),(x1,((),((),((),(y3.1.1,((),(y6.1.1,(0,()))))))))),(y6.2.1,(((),((),((),((),((),((),((),((),((),((),((),((),((),((),((),((),((),((),((),()))))))))))))))))))),(((),((),((),((),((),((),((),((),((),((),((),((),((),((),((),((),((),((),((),((),((),((),((),((),((),((),((),()))))))))))))))))))))))))))),(y2.1.1,(((),(y7.2.1.1.2.1,((),(y7.2.1.2.1.1,(y7.2.1.2.1.2.1,(y7.2.1.2.1.2.2.1,(y7.2.1.2.1.2.2.2.1,(y7.2.1.2.1.2.2.2.2.1,(y7.2.1.2.1.2.2.2.2.2.1,(y7.2.1.2.1.2.2.2.2.2.2.1,(y7.2.1.2.1.2.2.2.2.2.2.2.1,(y7.2.1.2.2.1.1,(y7.2.1.2.2.1.2.1,(y7.2.1.2.2.1.2.2.1,(y7.2.1.2.2.1.2.2.2.1,(y7.2.1.2.2.2.1.1.1,(y7.2.1.2.2.2.1.1.2.1,(y7.2.1.2.2.2.1.1.2.2.1,((),(y7.2.1.2.2.2.2.1.1,((),(y7.2.1.2.2.2.2.2.1,(y7.2.1.2.2.2.2.2.2.1,((),((),((),((),()))))))))))))))))))))))))))),(y7.2.1.1.1,(y7.2.1.1.2.2.1,(y7.2.1.2.2.2.1.2.1,(y7.2.1.2.2.2.2.1.2.1,y7.2.1.2.2.2.2.2.2.2))))))))))).bind fun d34=>match d34 with | .inl BH=>((aL vY (((),(BH.1.2.1,((),((),((),(BH.1.2.2.2.2.2.1,((),(BH.1.2.2.2.2.2.2.2.1,(0,()))))))))),BH.2)).bind fun d33=>match d33 with | .inl y22=>(bB y22.2.1 (f196 y22.1.2.1 40)).bind fun y23=>((aL vZ (((),((),((),((),(y22.1.2.2.2.2.2.1,((),(y22.1.2.2.2.2.2.2.2.1,(y23.1.1,(0,()))))))))),(y23.2.1,y22.2.2))).bind fun d32=>match d32 with | .inl y25=>(iG y25.2.1 4).bind fun MN=>bif MN.1.1 then (Ld MN.2.1).bind fun y27=>bif (decide (0≤y25.1.2.2.2.2.1)&&decide (y25.1.2.2.2.2.1 < (y25.2.2.2.2.1.2.2.2.2.2.2.2.1.len:Int))) then Jt y25 y27.2 y27.1.1.1 (IntKind.wrap .u32 ((L.get y25.2.2.2.2.1.2.2.2.2.2.2.2.1 y25.1.2.2.2.2.1.toNat).2.1)) y27.1.1.2.2 else none else Jt y25 MN.2 y25.2.2.2.2.2.1.2.2.2.1 y25.2.2.2.2.2.1.2.2.2.2.1 (y25.2.2.2.2.2.1.2.2.2.2.2.1,(y25.2.2.2.2.2.1.2.2.2.2.2.2.1,(y25.2.2.2.2.2.1.2.2.2.2.2.2.2.1,(y25.2.2.2.2.2.1.2.2.2.2.2.2.2.2.1,(y25.2.2.2.2.2.1.2.2.2.2.2.2.2.2.2.1,(y25.2.2.2.2.2.1.2.2.2.2.2.2.2.2.2.2.1,())))))) | .inr e=>nomatch e) | .inr e=>nomatch e) | .inr e=>nomatch e
noncomputable def aiW:E:=⟨97,[],C [.pd dw,.v (.sl (.int .u8))] [bA,(.int .i64),cZ,(.int .i64)] fun x=>Ud x.1 x.2.1,fh [qP,aeW,Xz,ae2,ae4,DF,Qx,aiv,aap,afm] [(0,fx ⟨[(0,.bx 100000000 0),(1,.v (.sl (.int .u8))),(4,.bx 4 0),(6,.bx 6 0),(8,.bx 8 0),(9,.v (.int .i64)),(10,.bx 10 0),(11,.v (.int .i64)),(12,.v (.int .i64))],[(100000000,.typ dw),(4,.cells [.any,.any,.any,.any,.any,.any,.any,.any,.any,.any,.any,.any,.any,.any,.any,.any,.any,.any,.any]),(6,.cells [.any,.any,.any,.any,.any,.any,.any,.any,.any,.any,.any,.any,.any,.any,.any,.any,.any,.any,.any,.any,.any,.any,.any,.any,.any,.any,.any]),(8,.typ bA),(10,.cells [.ms 1002048,.v (.int .u32),.ms 1002049,.v .bool,.v (.int .u32),.v (.int .u32),.v (.int .u32),.v (.int .u32),.v .bool,.v .bool,.v (.int .u32),.v (.int .i64),.v (.int .i64),.v (.int .i64),.v .bool,.v (.int .i64),.v (.int .i64),.v (.int .i64),.ms 1002050,.v (.int .i64),.ms 1002051,.v (.int .i64),.v .bool,.ms 1002052,.ms 1002053,.ms 1002054,.ms 1002055]),(1002048,.row (.int .u32)),(1002049,.row (.sl (.int .u8))),(1002050,.row bS),(1002051,.row (.int .i64)),(1002052,.row (.sl (.int .u8))),(1002053,.row bN),(1002054,.row eu),(1002055,.row bQ)]⟩ [(.exit 0,⟨[(0,.bx 100000000 0),(1,.v (.sl (.int .u8))),(4,.bx 4 0),(6,.bx 6 0),(8,.bx 8 0),(9,.v (.int .i64)),(10,.bx 10 0),(11,.v (.int .i64))],[(100000000,.typ dw),(4,.cells [.any,.any,.any,.any,.any,.any,.any,.any,.any,.any,.any,.any,.any,.any,.any,.any,.any,.any,.any]),(6,.cells [.any,.any,.any,.any,.any,.any,.any,.any,.any,.any,.any,.any,.any,.any,.any,.any,.any,.any,.any,.any,.any,.any,.any,.any,.any,.any,.any]),(8,.typ bA),(10,.cells [.ms 1002048,.v (.int .u32),.ms 1002049,.v .bool,.v (.int .u32),.v (.int .u32),.v (.int .u32),.v (.int .u32),.v .bool,.v .bool,.v (.int .u32),.v (.int .i64),.v (.int .i64),.v (.int .i64),.v .bool,.v (.int .i64),.v (.int .i64),.v (.int .i64),.ms 1002050,.v (.int .i64),.ms 1002051,.v (.int .i64),.v .bool,.ms 1002052,.ms 1002053,.ms 1002054,.ms 1002055]),(1002048,.row (.int .u32)),(1002049,.row (.sl (.int .u8))),(1002050,.row bS),(1002051,.row (.int .i64)),(1002052,.row (.sl (.int .u8))),(1002053,.row bN),(1002054,.row eu),(1002055,.row bQ)]⟩)] vX),(2,fx ⟨[(0,.bx 100000000 0),(1,.v (.sl (.int .u8))),(4,.bx 4 0),(6,.bx 6 0),(8,.bx 8 0),(9,.v (.int .i64)),(10,.bx 10 0),(11,.v (.int .i64)),(13,.v (.int .i64))],[(100000000,.typ dw),(4,.cells [.any,.any,.any,.any,.any,.any,.any,.any,.any,.any,.any,.any,.any,.any,.any,.any,.any,.any,.any]),(6,.cells [.any,.any,.any,.any,.any,.any,.any,.any,.any,.any,.any,.any,.any,.any,.any,.any,.any,.any,.any,.any,.any,.any,.any,.any,.any,.any,.any]),(8,.typ bA),(10,.cells [.ms 1002048,.v (.int .u32),.ms 1002049,.v .bool,.v (.int .u32),.v (.int .u32),.v (.int .u32),.v (.int .u32),.v .bool,.v .bool,.v (.int .u32),.v (.int .i64),.v (.int .i64),.v (.int .i64),.v .bool,.v (.int .i64),.v (.int .i64),.v (.int .i64),.ms 1002050,.v (.int .i64),.ms 1002051,.v (.int .i64),.v .bool,.ms 1002052,.ms 1002053,.ms 1002054,.ms 1002055]),(1002048,.row (.int .u32)),(1002049,.row (.sl (.int .u8))),(1002050,.row bS),(1002051,.row (.int .i64)),(1002052,.row (.sl (.int .u8))),(1002053,.row bN),(1002054,.row eu),(1002055,.row bQ)]⟩ [(.exit 2,⟨[(0,.bx 100000000 0),(1,.v (.sl (.int .u8))),(4,.bx 4 0),(6,.bx 6 0),(8,.bx 8 0),(9,.v (.int .i64)),(10,.bx 10 0),(11,.v (.int .i64))],[(100000000,.typ dw),(4,.cells [.any,.any,.any,.any,.any,.any,.any,.any,.any,.any,.any,.any,.any,.any,.any,.any,.any,.any,.any]),(6,.cells [.any,.any,.any,.any,.any,.any,.any,.any,.any,.any,.any,.any,.any,.any,.any,.any,.any,.any,.any,.any,.any,.any,.any,.any,.any,.any,.any]),(8,.typ bA),(10,.cells [.ms 1002048,.v (.int .u32),.ms 1002049,.v .bool,.v (.int .u32),.v (.int .u32),.v (.int .u32),.v (.int .u32),.v .bool,.v .bool,.v (.int .u32),.v (.int .i64),.v (.int .i64),.v (.int .i64),.v .bool,.v (.int .i64),.v (.int .i64),.v (.int .i64),.ms 1002050,.v (.int .i64),.ms 1002051,.v (.int .i64),.v .bool,.ms 1002052,.ms 1002053,.ms 1002054,.ms 1002055]),(1002048,.row (.int .u32)),(1002049,.row (.sl (.int .u8))),(1002050,.row bS),(1002051,.row (.int .i64)),(1002052,.row (.sl (.int .u8))),(1002053,.row bN),(1002054,.row eu),(1002055,.row bQ)]⟩)] vY),(4,fx ⟨[(0,.bx 100000000 0),(4,.bx 4 0),(6,.bx 6 0),(8,.bx 8 0),(9,.v (.int .i64)),(10,.bx 10 0),(11,.v (.int .i64)),(14,.v (.int .i64)),(15,.v (.int .i64))],[(100000000,.typ dw),(4,.cells [.any,.any,.any,.any,.any,.any,.any,.any,.any,.any,.any,.any,.any,.any,.any,.any,.any,.any,.any]),(6,.cells [.any,.any,.any,.any,.any,.any,.any,.any,.any,.any,.any,.any,.any,.any,.any,.any,.any,.any,.any,.any,.any,.any,.any,.any,.any,.any,.any]),(8,.typ bA),(10,.cells [.ms 1002048,.v (.int .u32),.ms 1002049,.v .bool,.v (.int .u32),.v (.int .u32),.v (.int .u32),.v (.int .u32),.v .bool,.v .bool,.v (.int .u32),.v (.int .i64),.v (.int .i64),.v (.int .i64),.v .bool,.v (.int .i64),.v (.int .i64),.v (.int .i64),.ms 1002050,.v (.int .i64),.ms 1002051,.v (.int .i64),.v .bool,.ms 1002052,.ms 1002053,.ms 1002054,.ms 1002055]),(1002048,.row (.int .u32)),(1002049,.row (.sl (.int .u8))),(1002050,.row bS),(1002051,.row (.int .i64)),(1002052,.row (.sl (.int .u8))),(1002053,.row bN),(1002054,.row eu),(1002055,.row bQ)]⟩ [(.exit 4,⟨[(0,.bx 100000000 0),(4,.bx 4 0),(6,.bx 6 0),(8,.bx 8 0),(9,.v (.int .i64)),(10,.bx 10 0),(11,.v (.int .i64))],[(100000000,.typ dw),(4,.cells [.any,.any,.any,.any,.any,.any,.any,.any,.any,.any,.any,.any,.any,.any,.any,.any,.any,.any,.any]),(6,.cells [.any,.any,.any,.any,.any,.any,.any,.any,.any,.any,.any,.any,.any,.any,.any,.any,.any,.any,.any,.any,.any,.any,.any,.any,.any,.any,.any]),(8,.typ bA),(10,.cells [.ms 1002048,.v (.int .u32),.ms 1002049,.v .bool,.v (.int .u32),.v (.int .u32),.v (.int .u32),.v (.int .u32),.v .bool,.v .bool,.v (.int .u32),.v (.int .i64),.v (.int .i64),.v (.int .i64),.v .bool,.v (.int .i64),.v (.int .i64),.v (.int .i64),.ms 1002050,.v (.int .i64),.ms 1002051,.v (.int .i64),.v .bool,.ms 1002052,.ms 1002053,.ms 1002054,.ms 1002055]),(1002048,.row (.int .u32)),(1002049,.row (.sl (.int .u8))),(1002050,.row bS),(1002051,.row (.int .i64)),(1002052,.row (.sl (.int .u8))),(1002053,.row bN),(1002054,.row eu),(1002055,.row bQ)]⟩)] vZ)] Tryz.func97⟩
noncomputable def g20 (x0:(L Int)):Option (U2×Unit) :=
(g98 x0).bind fun y1=>(Ud y1.1.1 x0).bind fun y2=>some ((y2.1.1,y2.1.2.1,y2.1.2.2.1,y2.1.2.2.2.1,()),())
noncomputable def d20:E:=⟨20,[],C [.v (.sl (.int .u8))] [bA,(.int .i64),cZ,(.int .i64)] fun x=>g20 x.1,fh [d98,aiW] [] Tryz.func20⟩
noncomputable def XR (x0 x1 x2:Int):Option ((Bool×Unit)×Unit) :=
bif (decide (x0 ≥ x1)) then some (((decide (x0≤x2)),()),()) else some ((false,()),())
noncomputable def f157 (x0 x1 x2:Int):Bool :=
bif (decide (x0 ≥ x1)) then (decide (x0≤x2)) else false
theorem n157 (x0:Int) (x1:Int) (x2:Int):XR x0 x1 x2 = some ((f157 x0 x1 x2,()),()):=by simp only [XR,f157,bL]
noncomputable def jC:E:=⟨157,[],C [.v (.int .i64),.v (.int .i64),.v (.int .i64)] [.bool] fun x=>some ((f157 x.1 x.2.1 x.2.2.1,()),()),jO [] [] (fun x=>XR x.1 x.2.1 x.2.2.1) Tryz.func157 fun x=>n157 x.1 x.2.1 x.2.2.1⟩
noncomputable def XU (x0:Int):Option ((Bool×Unit)×Unit) :=
bif (f157 x0 64 2048) then some ((((Int.tmod x0 4) == 0),()),()) else some ((false,()),())
noncomputable def f200 (x0:Int):Bool :=
bif (f157 x0 64 2048) then ((Int.tmod x0 4) == 0) else false
theorem n200 (x0:Int):XU x0 = some ((f200 x0,()),()):=by simp only [XU,f200,bL]
noncomputable def agt:E:=⟨200,[],C [.v (.int .i64)] [.bool] fun x=>some ((f200 x.1,()),()),jO [jC] [] (fun x=>XU x.1) Tryz.func200 fun x=>n200 x.1⟩
noncomputable def XV (x0:Int):Option ((Bool×Unit)×Unit) :=
bif (decide (x0 > 0)) then some ((((bP .i64 x0 (wI (x0 - 1))) == 0),()),()) else some ((false,()),())
noncomputable def f300 (x0:Int):Bool :=
bif (decide (x0 > 0)) then ((bP .i64 x0 (wI (x0 - 1))) == 0) else false
theorem n300 (x0:Int):XV x0 = some ((f300 x0,()),()):=by simp only [XV,f300,bL]
noncomputable def aiX:E:=⟨300,[],C [.v (.int .i64)] [.bool] fun x=>some ((f300 x.1,()),()),jO [] [] (fun x=>XV x.1) Tryz.func300 fun x=>n300 x.1⟩
noncomputable def XW (x0:(Int×(Int×(Int×Unit)))):Option ((Bool×Unit)×Unit) :=
bif (f157 x0.1 1 16) then bif (f300 x0.1) then bif (f157 x0.2.1 1 4) then bif (f157 x0.2.2.1 4 32) then some (((f300 x0.2.2.1),()),()) else some ((false,()),()) else some ((false,()),()) else some ((false,()),()) else some ((false,()),())
noncomputable def f201 (x0:(Int×(Int×(Int×Unit)))):Bool :=
bif (f157 x0.1 1 16) then bif (f300 x0.1) then bif (f157 x0.2.1 1 4) then bif (f157 x0.2.2.1 4 32) then (f300 x0.2.2.1) else false else false else false else false
theorem n201 (x0:(Int×(Int×(Int×Unit)))):XW x0 = some ((f201 x0,()),()):=by simp only [XW,f201,bL]
noncomputable def Zq:E:=⟨201,[],C [.v bI] [.bool] fun x=>some ((f201 x.1,()),()),jO [jC,aiX] [] (fun x=>XW x.1) Tryz.func201 fun x=>n201 x.1⟩
noncomputable def g99 (x0:jN):Option ((Bool×Unit)×Unit) :=
bif (!(f157 x0.2.1 0 50)) then some ((false,()),()) else bif (!(f157 x0.2.2.1 0 50)) then some ((false,()),()) else bif (!(f157 x0.2.2.2.1 0 50)) then some ((false,()),()) else bif (!(f157 x0.2.2.2.2.1 0 50)) then some ((false,()),()) else bif (!(f157 x0.2.2.2.2.2.1 0 50)) then some ((false,()),()) else bif (!(f157 x0.2.2.2.2.2.2.1 0 50)) then some ((false,()),()) else some (((f157 x0.1 1 20),()),())
noncomputable def f99 (x0:jN):Bool :=
bif (!(f157 x0.2.1 0 50)) then false else bif (!(f157 x0.2.2.1 0 50)) then false else bif (!(f157 x0.2.2.2.1 0 50)) then false else bif (!(f157 x0.2.2.2.2.1 0 50)) then false else bif (!(f157 x0.2.2.2.2.2.1 0 50)) then false else bif (!(f157 x0.2.2.2.2.2.2.1 0 50)) then false else (f157 x0.1 1 20)
theorem n99 (x0:jN):g99 x0 = some ((f99 x0,()),()):=by simp only [g99,f99,bL]
noncomputable def d99:E:=⟨99,[],C [.v iX] [.bool] fun x=>some ((f99 x.1,()),()),jO [jC] [(0,ur 7 [1,17,18] [1])] (fun x=>g99 x.1) Tryz.func99 fun x=>n99 x.1⟩
noncomputable def XY (x0:Int):Option ((Bool×Unit)×Unit) :=
some (((f157 x0 1 5000),()),())
noncomputable def f202 (x0:Int):Bool :=
(f157 x0 1 5000)
theorem n202 (x0:Int):XY x0 = some ((f202 x0,()),()):=by simp only [XY,f202,bL]
noncomputable def agu:E:=⟨202,[],C [.v (.int .i64)] [.bool] fun x=>some ((f202 x.1,()),()),jO [jC] [] (fun x=>XY x.1) Tryz.func202 fun x=>n202 x.1⟩
noncomputable def XZ (x0:jN) (x1:Int):Option ((Int×Unit)×Unit) :=
bif (x1 == 9) then some (((wI (x0.1 + x0.2.1)),()),()) else bif (x1 == 10) then some (((wI (x0.1 + x0.2.1)),()),()) else bif (f157 x1 15 18) then some (((wI (x0.1 + x0.2.2.1)),()),()) else bif (decide (x1 ≥ 25)) then some (((wI (x0.1 + x0.2.2.2.2.2.1)),()),()) else some ((x0.1,()),())
noncomputable def f100 (x0:jN) (x1:Int):Int :=
bif (x1 == 9) then (wI (x0.1 + x0.2.1)) else bif (x1 == 10) then (wI (x0.1 + x0.2.1)) else bif (f157 x1 15 18) then (wI (x0.1 + x0.2.2.1)) else bif (decide (x1 ≥ 25)) then (wI (x0.1 + x0.2.2.2.2.2.1)) else x0.1
theorem n100 (x0:jN) (x1:Int):XZ x0 x1 = some ((f100 x0 x1,()),()):=by simp only [XZ,f100,bL]
noncomputable def aah:E:=⟨100,[],C [.v iX,.v (.int .i64)] [(.int .i64)] fun x=>some ((f100 x.1 x.2.1,()),()),jO [jC] [] (fun x=>XZ x.1 x.2.1) Tryz.func100 fun x=>n100 x.1 x.2.1⟩
noncomputable def X0 (x0:jN) (x1:MK):Option ((Int×Unit)×Unit) :=
bif (!x1.1) then bif (!x1.2.1) then bif x1.2.2.1 then some (((wI ((wI ((wI (0 + x0.2.2.2.1)) + x0.2.2.2.2.1)) + x0.2.2.2.2.2.2.1)),()),()) else some (((wI ((wI (0 + x0.2.2.2.1)) + x0.2.2.2.2.1)),()),()) else bif x1.2.2.1 then some (((wI ((wI (0 + x0.2.2.2.1)) + x0.2.2.2.2.2.2.1)),()),()) else some (((wI (0 + x0.2.2.2.1)),()),()) else bif (!x1.2.1) then bif x1.2.2.1 then some (((wI ((wI (0 + x0.2.2.2.2.1)) + x0.2.2.2.2.2.2.1)),()),()) else some (((wI (0 + x0.2.2.2.2.1)),()),()) else bif x1.2.2.1 then some (((wI (0 + x0.2.2.2.2.2.2.1)),()),()) else some ((0,()),())
noncomputable def f101 (x0:jN) (x1:MK):Int :=
bif (!x1.1) then bif (!x1.2.1) then bif x1.2.2.1 then (wI ((wI ((wI (0 + x0.2.2.2.1)) + x0.2.2.2.2.1)) + x0.2.2.2.2.2.2.1)) else (wI ((wI (0 + x0.2.2.2.1)) + x0.2.2.2.2.1)) else bif x1.2.2.1 then (wI ((wI (0 + x0.2.2.2.1)) + x0.2.2.2.2.2.2.1)) else (wI (0 + x0.2.2.2.1)) else bif (!x1.2.1) then bif x1.2.2.1 then (wI ((wI (0 + x0.2.2.2.2.1)) + x0.2.2.2.2.2.2.1)) else (wI (0 + x0.2.2.2.2.1)) else bif x1.2.2.1 then (wI (0 + x0.2.2.2.2.2.2.1)) else 0
theorem n101 (x0:jN) (x1:MK):X0 x0 x1 = some ((f101 x0 x1,()),()):=by simp only [X0,f101,bL]
noncomputable def Z6:E:=⟨101,[],C [.v iX,.v (.pair .bool Xi)] [(.int .i64)] fun x=>some ((f101 x.1 x.2.1,()),()),jO [] [] (fun x=>X0 x.1 x.2.1) Tryz.func101 fun x=>n101 x.1 x.2.1⟩
noncomputable def xg:P9→Option (KX⊕(((Unit×(Int×Unit))×vL)⊕Empty)):=fun ⟨⟨_,t3,t8,_⟩,b1,_⟩ =>
bif (decide (t8 < 33)) then some (.inl (((),((if (f100 b1 t8) > t3 then (f100 b1 t8) else t3),((wI (t8 + 1)),()))),(b1,()))) else some (.inr (.inl (((),(t3,())),(b1,()))))
noncomputable def g22 (x0:jN):Option ((Int×Unit)×Unit) :=
bif (!(f99 x0)) then some (((-1:Int),()),()) else (aL xg (((),(0,(0,()))),(x0,()))).bind fun d2=>match d2 with | .inl y1=>some (((wI ((wI (y1.1.2.1 + (wI (2 * (f101 y1.2.1 (false,(false,(true,())))))))) + y1.2.1.2.2.2.2.2.1)),()),()) | .inr e=>nomatch e
noncomputable def d22:E:=⟨22,[],C [.v iX] [(.int .i64)] fun x=>g22 x.1,fh [d99,aah,Z6] [(0,fx ⟨[(1,.bx 1 0),(3,.v (.int .i64)),(8,.v (.int .i64))],[(1,.typ iX)]⟩ [(.exit 0,⟨[(1,.bx 1 0),(3,.v (.int .i64))],[(1,.typ iX)]⟩)] xg)] Tryz.func22⟩
noncomputable def OH (x0:jN):Option ((Int×Unit)×Unit) :=
(g22 x0).bind fun y1=>some ((y1.1.1,()),())
noncomputable def agv:E:=⟨203,[],C [.v iX] [(.int .i64)] fun x=>OH x.1,fh [d22] [] Tryz.func203⟩
noncomputable def zH:(((ByteArray×(Int×(Int×Unit)))×Unit))→Option (((ByteArray×(Int×(Int×Unit)))×Unit)⊕(((Bool×Unit)×Unit)⊕(((ByteArray×Unit)×Unit)⊕Empty))):=fun ⟨⟨t0,t5,t6,_⟩,_⟩ =>
bif (decide (t6 < t5)) then bif (decide (0≤t6)&&decide (t6 < t0.size)) then bif (decide ((bt t0 t6) < 97)) then some (.inr (.inl ((false,()),()))) else bif (decide (0≤t6)&&decide (t6 < t0.size)) then bif (decide ((bt t0 t6) > 122)) then some (.inr (.inl ((false,()),()))) else some (.inl ((t0,(t5,((wI (t6 + 1)),()))),())) else none else none else some (.inr (.inr (.inl ((t0,()),()))))
noncomputable def Tq (x0:ByteArray):Option ((Bool×Unit)×Unit) :=
(aL zH ((x0,((x0.size:Int),(0,()))),())).bind fun d3=>match d3 with | .inl y1=>some ((y1.1.1,()),()) | .inr (.inl y2)=>some (((f157 (y2.1.1.size:Int) 1 12),()),()) | .inr (.inr e)=>nomatch e
noncomputable def aiY:E:=⟨363,[],C [.v .str] [.bool] fun x=>Tq x.1,fh [jC] [(0,fx ⟨[(0,.v .str),(5,.v (.int .i64)),(6,.v (.int .i64))],[]⟩ [(.ret,⟨[(2,.v .bool)],[]⟩),(.exit 0,⟨[(0,.v .str)],[]⟩)] zH)] Tryz.func363⟩
noncomputable def PE (x0:ByteArray):Option ((Bool×Unit)×Unit) :=
(Tq x0).bind fun y1=>bif y1.1.1 then some (((decide ((x0.size:Int)≤8)),()),()) else some ((false,()),())
noncomputable def aiZ:E:=⟨301,[],C [.v .str] [.bool] fun x=>PE x.1,fh [aiY] [] Tryz.func301⟩
noncomputable def X3 (x0:Bo) (x1:ByteArray):Option ((Bool×Unit)×Unit) :=
some (((strEq x0.1 x1),()),())
noncomputable def Ue (x0:Bo) (x1:ByteArray):Bool :=
(strEq x0.1 x1)
theorem ai0 (x0:Bo) (x1:ByteArray):X3 x0 x1 = some ((Ue x0 x1,()),()):=by simp only [X3,Ue,bL]
noncomputable def ai1:E:=⟨365,[],C [.v iW,.rf .str] [.bool] fun x=>some ((Ue x.1 x.2.1,()),()),jO [] [] (fun x=>X3 x.1 x.2.1) Tryz.func365 fun x=>ai0 x.1 x.2.1⟩
noncomputable def gW:(((sO×((ByteArray×Unit)×(Int×(Int×Unit))))×Unit))→Option (((sO×((ByteArray×Unit)×(Int×(Int×Unit))))×Unit)⊕(((Int×Unit)×Unit)⊕((Unit×Unit)⊕Empty))):=fun ⟨⟨t0,t1,t7,t8,_⟩,_⟩ =>
bif (decide (t8 < t7)) then bif (decide (0≤t8)&&decide (t8 < (t0.len:Int))) then bif (Ue (L.get t0 t8.toNat) t1.1) then some (.inr (.inl ((t8,()),()))) else some (.inl ((t0,(t1,(t7,((wI (t8 + 1)),())))),())) else none else some (.inr (.inr (.inl ((),()))))
noncomputable def Br (x0:sO) (x1:(ByteArray×Unit)):Option ((Int×Unit)×Unit) :=
(aL gW ((x0,(x1,((x0.len:Int),(0,())))),())).bind fun d3=>match d3 with | .inl y1=>some ((y1.1.1,()),()) | .inr (.inl y2)=>some (((-1:Int),()),()) | .inr (.inr e)=>nomatch e
noncomputable def QD:E:=⟨364,[365],C [.v xR,.pW 365 [.str]] [(.int .i64)] fun x=>Br x.1 x.2.1,fh [ai1] [(0,fx ⟨[(0,.v xR),(1,.pW 365 [.str]),(7,.v (.int .i64)),(8,.v (.int .i64))],[]⟩ [(.ret,⟨[(4,.v (.int .i64))],[]⟩),(.exit 0,⟨[],[]⟩)] gW)] Tryz.func364⟩
noncomputable def Tt (x0:bH) (x1:ByteArray):Option ((Int×Unit)×Unit) :=
(Br x0.2.2.2.2.2.2.2.1 (x1,())).bind fun y1=>some ((y1.1.1,()),())
noncomputable def ai2:E:=⟨302,[],C [.v bA,.v .str] [(.int .i64)] fun x=>Tt x.1 x.2.1,fh [QD] [] Tryz.func302⟩
noncomputable def X4 (x0:(Int×(Int×Unit))):Option ((Bool×Unit)×Unit) :=
bif (x0.1 == 1) then some (((f157 x0.2.1 0 100),()),()) else bif (x0.1 == 0) then some (((x0.2.1 == 0),()),()) else bif (x0.1 == 2) then some (((x0.2.1 == 0),()),()) else some ((false,()),())
noncomputable def f303 (x0:(Int×(Int×Unit))):Bool :=
bif (x0.1 == 1) then (f157 x0.2.1 0 100) else bif (x0.1 == 0) then (x0.2.1 == 0) else bif (x0.1 == 2) then (x0.2.1 == 0) else false
theorem n303 (x0:(Int×(Int×Unit))):X4 x0 = some ((f303 x0,()),()):=by simp only [X4,f303,bL]
noncomputable def aad:E:=⟨303,[],C [.v ED] [.bool] fun x=>some ((f303 x.1,()),()),jO [jC] [] (fun x=>X4 x.1) Tryz.func303 fun x=>n303 x.1⟩
noncomputable def X5 (x0:(Int×(Int×(Int×Unit)))):Option ((Bool×Unit)×Unit) :=
bif (f157 x0.2.1 4 2048) then bif ((Int.tmod x0.2.1 4) == 0) then bif (f157 x0.1 0 (wI (2048 - x0.2.1))) then bif ((Int.tmod x0.1 4) == 0) then some (((f157 x0.2.2.1 1 7),()),()) else some ((false,()),()) else some ((false,()),()) else some ((false,()),()) else some ((false,()),())
noncomputable def f304 (x0:(Int×(Int×(Int×Unit)))):Bool :=
bif (f157 x0.2.1 4 2048) then bif ((Int.tmod x0.2.1 4) == 0) then bif (f157 x0.1 0 (wI (2048 - x0.2.1))) then bif ((Int.tmod x0.1 4) == 0) then (f157 x0.2.2.1 1 7) else false else false else false else false
theorem n304 (x0:(Int×(Int×(Int×Unit)))):X5 x0 = some ((f304 x0,()),()):=by simp only [X5,f304,bL]
noncomputable def Zt:E:=⟨304,[],C [.v bI] [.bool] fun x=>some ((f304 x.1,()),()),jO [jC] [] (fun x=>X5 x.1) Tryz.func304 fun x=>n304 x.1⟩
noncomputable def X6 (x0 x1:(Int×(Int×(Int×Unit)))):Option ((Bool×Unit)×Unit) :=
bif (decide ((wI (x0.1 + x0.2.1))≤x1.1)) then some ((true,()),()) else some (((decide ((wI (x1.1 + x1.2.1))≤x0.1)),()),())
noncomputable def f307 (x0 x1:(Int×(Int×(Int×Unit)))):Bool :=
bif (decide ((wI (x0.1 + x0.2.1))≤x1.1)) then true else (decide ((wI (x1.1 + x1.2.1))≤x0.1))
theorem n307 (x0:(Int×(Int×(Int×Unit)))) (x1:(Int×(Int×(Int×Unit)))):X6 x0 x1 = some ((f307 x0 x1,()),()):=by simp only [X6,f307,bL]
noncomputable def Zr:E:=⟨307,[],C [.v bI,.v bI] [.bool] fun x=>some ((f307 x.1 x.2.1,()),()),jO [] [] (fun x=>X6 x.1 x.2.1) Tryz.func307 fun x=>n307 x.1 x.2.1⟩
noncomputable def X7 (x0 x1:(Int×(Int×(Int×Unit)))):Option ((Bool×Unit)×Unit) :=
some (((!(f307 x0 x1)),()),())
noncomputable def f306 (x0 x1:(Int×(Int×(Int×Unit)))):Bool :=
(!(f307 x0 x1))
theorem n306 (x0:(Int×(Int×(Int×Unit)))) (x1:(Int×(Int×(Int×Unit)))):X7 x0 x1 = some ((f306 x0 x1,()),()):=by simp only [X7,f306,bL]
noncomputable def ai3:E:=⟨306,[],C [.v bI,.rf bI] [.bool] fun x=>some ((f306 x.1 x.2.1,()),()),jO [Zr] [] (fun x=>X7 x.1 x.2.1) Tryz.func306 fun x=>n306 x.1 x.2.1⟩
noncomputable def kT:(Ka)→Option (Ka⊕(((Int×Unit)×Unit)⊕((Unit×Unit)⊕Empty))):=fun ⟨⟨t0,t1,t7,t8,_⟩,_⟩ =>
bif (decide (t8 < t7)) then bif (decide (0≤t8)&&decide (t8 < (t0.len:Int))) then bif (f306 (L.get t0 t8.toNat) t1.1) then some (.inr (.inl ((t8,()),()))) else some (.inl ((t0,(t1,(t7,((wI (t8 + 1)),())))),())) else none else some (.inr (.inr (.inl ((),()))))
noncomputable def Bt (x0:eO) (x1:I7):Option ((Int×Unit)×Unit) :=
(aL kT ((x0,(x1,((x0.len:Int),(0,())))),())).bind fun d3=>match d3 with | .inl y1=>some ((y1.1.1,()),()) | .inr (.inl y2)=>some (((-1:Int),()),()) | .inr (.inr e)=>nomatch e
noncomputable def QE:E:=⟨366,[306],C [.v bZ,.pW 306 [bI]] [(.int .i64)] fun x=>Bt x.1 x.2.1,fh [ai3] [(0,fx ⟨[(0,.v bZ),(1,.pW 306 [bI]),(7,.v (.int .i64)),(8,.v (.int .i64))],[]⟩ [(.ret,⟨[(4,.v (.int .i64))],[]⟩),(.exit 0,⟨[],[]⟩)] kT)] Tryz.func366⟩
noncomputable def qD (x0:eO) (x1:I7):Option ((Bool×Unit)×Unit) :=
(Bt x0 x1).bind fun y1=>some (((decide (y1.1.1 ≥ 0)),()),())
noncomputable def QF:E:=⟨305,[306],C [.v bZ,.pW 306 [bI]] [.bool] fun x=>qD x.1 x.2.1,fh [QE] [] Tryz.func305⟩
noncomputable def X8 (x0:(Int×(Int×(Int×Unit)))) (x1:Int):Option ((Bool×Unit)×Unit) :=
bif (decide (x0.1≤x1)) then some (((decide (x1 < (wI (x0.1 + x0.2.1)))),()),()) else some ((false,()),())
noncomputable def Cb (x0:(Int×(Int×(Int×Unit)))) (x1:Int):Bool :=
bif (decide (x0.1≤x1)) then (decide (x1 < (wI (x0.1 + x0.2.1)))) else false
theorem ai4 (x0:(Int×(Int×(Int×Unit)))) (x1:Int):X8 x0 x1 = some ((Cb x0 x1,()),()):=by simp only [X8,Cb,bL]
noncomputable def ai5:E:=⟨371,[],C [.v bI,.rf (.int .i64)] [.bool] fun x=>some ((Cb x.1 x.2.1,()),()),jO [] [] (fun x=>X8 x.1 x.2.1) Tryz.func371 fun x=>ai4 x.1 x.2.1⟩
noncomputable def gX:(((eO×Gb)×Unit))→Option (((eO×Gb)×Unit)⊕(((Int×Unit)×Unit)⊕((Unit×Unit)⊕Empty))):=fun ⟨⟨t0,t1,t7,t8,_⟩,_⟩ =>
bif (decide (t8 < t7)) then bif (decide (0≤t8)&&decide (t8 < (t0.len:Int))) then bif (Cb (L.get t0 t8.toNat) t1.1) then some (.inr (.inl ((t8,()),()))) else some (.inl ((t0,(t1,(t7,((wI (t8 + 1)),())))),())) else none else some (.inr (.inr (.inl ((),()))))
noncomputable def qE (x0:eO) (x1:(Int×Unit)):Option ((Int×Unit)×Unit) :=
(aL gX ((x0,(x1,((x0.len:Int),(0,())))),())).bind fun d3=>match d3 with | .inl y1=>some ((y1.1.1,()),()) | .inr (.inl y2)=>some (((-1:Int),()),()) | .inr (.inr e)=>nomatch e
noncomputable def QG:E:=⟨366,[371],C [.v bZ,.pW 371 [(.int .i64)]] [(.int .i64)] fun x=>qE x.1 x.2.1,fh [ai5] [(0,fx ⟨[(0,.v bZ),(1,.pW 371 [(.int .i64)]),(7,.v (.int .i64)),(8,.v (.int .i64))],[]⟩ [(.ret,⟨[(4,.v (.int .i64))],[]⟩),(.exit 0,⟨[],[]⟩)] gX)] Tryz.func366⟩
noncomputable def yH (x0:eO) (x1:Int):Option ((Int×Unit)×Unit) :=
(qE x0 (x1,())).bind fun y1=>some ((y1.1.1,()),())
noncomputable def SB:E:=⟨344,[],C [.v bZ,.v (.int .i64)] [(.int .i64)] fun x=>yH x.1 x.2.1,fh [QG] [] Tryz.func344⟩
noncomputable def Tx (x0:Bo) (x1:Int):Option ((Bool×Unit)×Unit) :=
(yH x0.2.2.2.1 x1).bind fun y1=>bif (decide (y1.1.1 ≥ 0)) then bif (decide (0≤y1.1.1)&&decide (y1.1.1 < (x0.2.2.2.1.len:Int))) then some ((((bP .i64 (L.get x0.2.2.2.1 y1.1.1.toNat).2.2.1 4) != 0),()),()) else none else some ((false,()),())
noncomputable def ai6:E:=⟨308,[],C [.v iW,.v (.int .i64)] [.bool] fun x=>Tx x.1 x.2.1,fh [SB] [] Tryz.func308⟩
noncomputable def rT:(((Unit×(Unit×(Unit×(sO×(Int×J8)))))×Qj))→Option (((Unit×(Unit×(Unit×(sO×(Int×J8)))))×Qj)⊕(((Bool×Unit)×Unit)⊕(((Unit×(Unit×(Unit×Qb)))×Qj)⊕Empty))):=fun ⟨⟨_,_,_,t9,t10,t11,t42,t43,t44,_⟩,b1,wH,b5,_⟩ =>
bif (decide (t44 < t43)) then bif (decide (0≤t44)&&decide (t44 < (t42.len:Int))) then bif (!(f304 (L.get t42 t44.toNat))) then some (.inr (.inl ((false,()),()))) else bif (decide ((wI ((L.get t42 t44.toNat).1 + (L.get t42 t44.toNat).2.1)) > b1.1)) then some (.inr (.inl ((false,()),()))) else (qD wH ((L.get t42 t44.toNat),())).bind fun y3=>bif y3.1.1 then some (.inr (.inl ((false,()),()))) else bif (decide (wH.len + (L.of (Ty.zero bI) [(L.get t42 t44.toNat)]).len≤most)) then some (.inl (((),((),((),(t9,(t10,(t11,(t42,(t43,((wI (t44 + 1)),()))))))))),(b1,((L.app wH (L.of (Ty.zero bI) [(L.get t42 t44.toNat)])),(b5,()))))) else none else none else some (.inr (.inr (.inl (((),((),((),(t9,(t10,(t11,())))))),(b1,(wH,(b5,())))))))
noncomputable def vJ:(((Unit×(eO×Qb))×qy))→Option (((Unit×(eO×Qb))×qy)⊕(((Bool×Unit)×Unit)⊕((Unit×Unit)⊕Empty))):=fun ⟨⟨_,t3,t9,t10,t11,_⟩,b1,_⟩ =>
bif (decide (t11 < t10)) then bif (decide (0≤t11)&&decide (t11 < (t9.len:Int))) then (PE (L.get t9 t11.toNat).1).bind fun y1=>bif (!y1.1.1) then some (.inr (.inl ((false,()),()))) else (Tt b1 (L.get t9 t11.toNat).1).bind fun y2=>bif (decide (y2.1.1 < t11)) then some (.inr (.inl ((false,()),()))) else bif (!(f303 (L.get t9 t11.toNat).2.2.1)) then some (.inr (.inl ((false,()),()))) else bif (!(f157 ((L.get t9 t11.toNat).2.2.2.1.len:Int) 1 4)) then some (.inr (.inl ((false,()),()))) else ((aL rT (((),((),((),(t9,(t10,(t11,((L.get t9 t11.toNat).2.2.2.1,(((L.get t9 t11.toNat).2.2.2.1.len:Int),(0,()))))))))),(b1,(t3,((L.get t9 t11.toNat),()))))).bind fun d7=>match d7 with | .inl y4=>some (.inr (.inl y4)) | .inr (.inl y5)=>bif ((Int.tmod y5.2.2.2.1.2.1 4) != 0) then some (.inr (.inl ((false,()),()))) else (Tx y5.2.2.2.1 y5.2.2.2.1.2.1).bind fun y6=>bif (!y6.1.1) then some (.inr (.inl ((false,()),()))) else some (.inl (((),(y5.2.2.1,(y5.1.2.2.2.1,(y5.1.2.2.2.2.1,((wI (y5.1.2.2.2.2.2.1 + 1)),()))))),(y5.2.1,()))) | .inr (.inr e)=>nomatch e) else none else some (.inr (.inr (.inl ((),()))))
noncomputable def Mq (x0:bH):Option ((Bool×Unit)×Unit) :=
(aL vJ (((),((bG bI),(x0.2.2.2.2.2.2.2.1,((x0.2.2.2.2.2.2.2.1.len:Int),(0,()))))),(x0,()))).bind fun d10=>match d10 with | .inl y8=>some ((y8.1.1,()),()) | .inr (.inl y9)=>some ((true,()),()) | .inr (.inr e)=>nomatch e
noncomputable def agw:E:=⟨204,[],C [.v bA] [.bool] fun x=>Mq x.1,fh [aiZ,ai2,aad,jC,Zt,QF,ai6] [(0,fx ⟨[(1,.bx 1 0),(3,.row bI 50003),(9,.v xR),(10,.v (.int .i64)),(11,.v (.int .i64))],[(1,.typ bA)]⟩ [(.ret,⟨[(2,.v .bool)],[]⟩),(.exit 0,⟨[],[]⟩)] vJ),(2,fx ⟨[(1,.bx 1 0),(3,.ms 50003),(5,.bx 5 0),(9,.v xR),(10,.v (.int .i64)),(11,.v (.int .i64)),(42,.v bZ),(43,.v (.int .i64)),(44,.v (.int .i64))],[(1,.typ bA),(50003,.row bI),(5,.typ iW)]⟩ [(.ret,⟨[(2,.v .bool)],[]⟩),(.exit 2,⟨[(1,.bx 1 0),(3,.ms 50003),(5,.bx 5 0),(9,.v xR),(10,.v (.int .i64)),(11,.v (.int .i64))],[(1,.typ bA),(50003,.row bI),(5,.typ iW)]⟩)] rT)] Tryz.func204⟩
noncomputable def X9 (x0 x1:Int):Option ((Bool×Unit)×Unit) :=
some (((!(f157 x0 0 (wI (x1 - 1)))),()),())
noncomputable def f206 (x0 x1:Int):Bool :=
(!(f157 x0 0 (wI (x1 - 1))))
theorem n206 (x0:Int) (x1:Int):X9 x0 x1 = some ((f206 x0 x1,()),()):=by simp only [X9,f206,bL]
noncomputable def ai7:E:=⟨206,[],C [.v (.int .i64),.rf (.int .i64)] [.bool] fun x=>some ((f206 x.1 x.2.1,()),()),jO [jC] [] (fun x=>X9 x.1 x.2.1) Tryz.func206 fun x=>n206 x.1 x.2.1⟩
noncomputable def fI:((((L Int)×Gb)×Unit))→Option ((((L Int)×Gb)×Unit)⊕(((Int×Unit)×Unit)⊕((Unit×Unit)⊕Empty))):=fun ⟨⟨t0,t1,t7,t8,_⟩,_⟩ =>
bif (decide (t8 < t7)) then bif (decide (0≤t8)&&decide (t8 < (t0.len:Int))) then bif (f206 (L.get t0 t8.toNat) t1.1) then some (.inr (.inl ((t8,()),()))) else some (.inl ((t0,(t1,(t7,((wI (t8 + 1)),())))),())) else none else some (.inr (.inr (.inl ((),()))))
noncomputable def Bq (x0:(L Int)) (x1:(Int×Unit)):Option ((Int×Unit)×Unit) :=
(aL fI ((x0,(x1,((x0.len:Int),(0,())))),())).bind fun d3=>match d3 with | .inl y1=>some ((y1.1.1,()),()) | .inr (.inl y2)=>some (((-1:Int),()),()) | .inr (.inr e)=>nomatch e
noncomputable def QH:E:=⟨309,[206],C [.v (.sl (.int .i64)),.pW 206 [(.int .i64)]] [(.int .i64)] fun x=>Bq x.1 x.2.1,fh [ai7] [(0,fx ⟨[(0,.v (.sl (.int .i64))),(1,.pW 206 [(.int .i64)]),(7,.v (.int .i64)),(8,.v (.int .i64))],[]⟩ [(.ret,⟨[(4,.v (.int .i64))],[]⟩),(.exit 0,⟨[],[]⟩)] fI)] Tryz.func309⟩
noncomputable def jD (x0:(L Int)) (x1:(Int×Unit)):Option ((Bool×Unit)×Unit) :=
(Bq x0 x1).bind fun y1=>some (((decide (y1.1.1 ≥ 0)),()),())
noncomputable def OI:E:=⟨205,[206],C [.v (.sl (.int .i64)),.pW 206 [(.int .i64)]] [.bool] fun x=>jD x.1 x.2.1,fh [QH] [] Tryz.func205⟩
noncomputable def Ya (x0:gH):Option ((Bool×Unit)×Unit) :=
bif (!(f157 x0.2.1 0 5)) then some ((false,()),()) else bif (!(f157 x0.2.2.1 0 5)) then some ((false,()),()) else bif (x0.2.1 == x0.2.2.1) then some ((false,()),()) else bif (x0.1 == 0) then bif (x0.2.2.2.1 == 0) then some ((true,()),()) else bif (x0.1 == 1) then some (((f157 x0.2.2.2.1 1 8),()),()) else some ((false,()),()) else bif (x0.1 == 1) then some (((f157 x0.2.2.2.1 1 8),()),()) else some ((false,()),())
noncomputable def f209 (x0:gH):Bool :=
bif (!(f157 x0.2.1 0 5)) then false else bif (!(f157 x0.2.2.1 0 5)) then false else bif (x0.2.1 == x0.2.2.1) then false else bif (x0.1 == 0) then bif (x0.2.2.2.1 == 0) then true else bif (x0.1 == 1) then (f157 x0.2.2.2.1 1 8) else false else bif (x0.1 == 1) then (f157 x0.2.2.2.1 1 8) else false
theorem n209 (x0:gH):Ya x0 = some ((f209 x0,()),()):=by simp only [Ya,f209,bL]
noncomputable def Wt:E:=⟨209,[],C [.v eP] [.bool] fun x=>some ((f209 x.1,()),()),jO [jC] [] (fun x=>Ya x.1) Tryz.func209 fun x=>n209 x.1⟩
noncomputable def Yb (x0:gH) (x1:Int):Option ((Bool×Unit)×Unit) :=
bif (!(f209 x0)) then some ((true,()),()) else bif (decide (x0.2.1 ≥ x1)) then some ((true,()),()) else some (((decide (x0.2.2.1 ≥ x1)),()),())
noncomputable def f208 (x0:gH) (x1:Int):Bool :=
bif (!(f209 x0)) then true else bif (decide (x0.2.1 ≥ x1)) then true else (decide (x0.2.2.1 ≥ x1))
theorem n208 (x0:gH) (x1:Int):Yb x0 x1 = some ((f208 x0 x1,()),()):=by simp only [Yb,f208,bL]
noncomputable def ai8:E:=⟨208,[],C [.v eP,.rf (.int .i64)] [.bool] fun x=>some ((f208 x.1 x.2.1,()),()),jO [Wt] [] (fun x=>Yb x.1 x.2.1) Tryz.func208 fun x=>n208 x.1 x.2.1⟩
noncomputable def dJ:(((yG×Gb)×Unit))→Option (((yG×Gb)×Unit)⊕(((Int×Unit)×Unit)⊕((Unit×Unit)⊕Empty))):=fun ⟨⟨t0,t1,t7,t8,_⟩,_⟩ =>
bif (decide (t8 < t7)) then bif (decide (0≤t8)&&decide (t8 < (t0.len:Int))) then bif (f208 (L.get t0 t8.toNat) t1.1) then some (.inr (.inl ((t8,()),()))) else some (.inl ((t0,(t1,(t7,((wI (t8 + 1)),())))),())) else none else some (.inr (.inr (.inl ((),()))))
noncomputable def vH (x0:yG) (x1:(Int×Unit)):Option ((Int×Unit)×Unit) :=
(aL dJ ((x0,(x1,((x0.len:Int),(0,())))),())).bind fun d3=>match d3 with | .inl y1=>some ((y1.1.1,()),()) | .inr (.inl y2)=>some (((-1:Int),()),()) | .inr (.inr e)=>nomatch e
noncomputable def QI:E:=⟨310,[208],C [.v vk,.pW 208 [(.int .i64)]] [(.int .i64)] fun x=>vH x.1 x.2.1,fh [ai8] [(0,fx ⟨[(0,.v vk),(1,.pW 208 [(.int .i64)]),(7,.v (.int .i64)),(8,.v (.int .i64))],[]⟩ [(.ret,⟨[(4,.v (.int .i64))],[]⟩),(.exit 0,⟨[],[]⟩)] dJ)] Tryz.func310⟩
noncomputable def iD (x0:yG) (x1:(Int×Unit)):Option ((Bool×Unit)×Unit) :=
(vH x0 x1).bind fun y1=>some (((decide (y1.1.1 ≥ 0)),()),())
noncomputable def OJ:E:=⟨207,[208],C [.v vk,.pW 208 [(.int .i64)]] [.bool] fun x=>iD x.1 x.2.1,fh [QI] [] Tryz.func207⟩
noncomputable def Yc (x0:gH):Option ((Int×Unit)×Unit) :=
some (((if x0.2.2.2.1 > 1 then x0.2.2.2.1 else 1),()),())
noncomputable def f311 (x0:gH):Int :=
(if x0.2.2.2.1 > 1 then x0.2.2.2.1 else 1)
theorem n311 (x0:gH):Yc x0 = some ((f311 x0,()),()):=by simp only [Yc,f311,bL]
noncomputable def Wu:E:=⟨311,[],C [.v eP] [(.int .i64)] fun x=>some ((f311 x.1,()),()),jO [] [] (fun x=>Yc x.1) Tryz.func311 fun x=>n311 x.1⟩
noncomputable def mW:(((Unit×(Int×P6))×vL))→Option (((Unit×(Int×P6))×vL)⊕(((Int×Unit)×Unit)⊕Empty)):=fun ⟨⟨_,t7,t22,t23,t24,_⟩,b3,_⟩ =>
bif (decide (t24 < t23)) then bif (decide (0≤t24)&&decide (t24 < (t22.len:Int))) then some (.inl (((),((wI (t7 + (wI (b3.1 * (f311 (L.get t22 t24.toNat)))))),(t22,(t23,((wI (t24 + 1)),()))))),(b3,()))) else none else some (.inr (.inl ((t7,()),())))
noncomputable def BP (x0:jN) (x1:(Int×(Int×(Int×Unit)))) (x2:yG):Option ((Int×Unit)×Unit) :=
(aL mW (((),((wI ((wI (16 * x0.1)) + (wI ((wI (x1.1 * x1.2.1)) * x0.2.2.2.2.2.2.1)))),(x2,((x2.len:Int),(0,()))))),(x0,()))).bind fun d2=>match d2 with | .inl y1=>some ((y1.1.1,()),()) | .inr e=>nomatch e
noncomputable def agx:E:=⟨210,[],C [.v iX,.v bI,.v vk] [(.int .i64)] fun x=>BP x.1 x.2.1 x.2.2.1,fh [Wu] [(0,fx ⟨[(3,.bx 3 0),(7,.v (.int .i64)),(22,.v vk),(23,.v (.int .i64)),(24,.v (.int .i64))],[(3,.typ iX)]⟩ [(.exit 0,⟨[(7,.v (.int .i64))],[]⟩)] mW)] Tryz.func210⟩
noncomputable def Yd (x0:bH) (x1:(Int×(Int×(Int×Unit)))) (x2:Int):Option ((Bool×Unit)×Unit) :=
bif (decide (x1.2.2.1 > (wI (x0.2.2.2.2.1 + x0.2.2.2.2.2.1)))) then bif (decide (x1.2.2.1≤x0.2.2.2.2.2.2.1)) then bif (decide (x1.2.1 ≥ x2)) then some (((decide (x1.2.1≤(wI (x0.2.2.2.2.2.2.1 - x1.2.2.1)))),()),()) else some ((false,()),()) else some ((false,()),()) else some ((false,()),())
noncomputable def f312 (x0:bH) (x1:(Int×(Int×(Int×Unit)))) (x2:Int):Bool :=
bif (decide (x1.2.2.1 > (wI (x0.2.2.2.2.1 + x0.2.2.2.2.2.1)))) then bif (decide (x1.2.2.1≤x0.2.2.2.2.2.2.1)) then bif (decide (x1.2.1 ≥ x2)) then (decide (x1.2.1≤(wI (x0.2.2.2.2.2.2.1 - x1.2.2.1)))) else false else false else false
theorem n312 (x0:bH) (x1:(Int×(Int×(Int×Unit)))) (x2:Int):Yd x0 x1 x2 = some ((f312 x0 x1 x2,()),()):=by simp only [Yd,f312,bL]
noncomputable def agr:E:=⟨312,[],C [.v bA,.v bI,.v (.int .i64)] [.bool] fun x=>some ((f312 x.1 x.2.1 x.2.2.1,()),()),jO [] [] (fun x=>Yd x.1 x.2.1 x.2.2.1) Tryz.func312 fun x=>n312 x.1 x.2.1 x.2.2.1⟩
end Go.VE.VFnOwn
