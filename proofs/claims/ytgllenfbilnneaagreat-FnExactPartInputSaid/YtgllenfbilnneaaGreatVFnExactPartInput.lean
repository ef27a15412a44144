import Derived.Test.YtgllenfbilnneaaGreatVFnExactPartInputP0
/- More of what the functions do that laws.FnExactPartInput reaches, and that they do it. -/
set_option linter.unusedVariables false
set_option linter.unusedSimpArgs false
namespace Go.VE.VFnExactPartInput
open Go.Proofs Go.VE
noncomputable def t110r:Tbl:=[(190,[],c190r),(191,[],c191r),(150,[],c150r),(192,[],c192r),(193,[],c193w),(194,[],c194w),(195,[],c195w),(196,[],c196r),(197,[],c197r),(198,[],c198r)]
abbrev h110r_L0:Shape:={ slots:=[(1,.bx 1 0),(2,.bx 2 0),(3,.ms 1001920),(4,.ms 1002112),(5,.ms 1002304),(37,.ms 1001920),(38,.v (.int .i64)),(39,.v (.int .i64))],boxes:=[(1,.cells [.ms 1000768,.v (.int .u32),.ms 1000769,.v .bool,.v (.int .u32),.v (.int .u32),.v (.int .u32),.v (.int .u32),.v .bool,.v .bool,.v (.int .u32),.v (.int .i64),.v (.int .i64),.v (.int .i64),.v .bool,.v (.int .i64),.v (.int .i64),.v (.int .i64),.ms 1000960,.v (.int .i64),.ms 1001600,.v (.int .i64),.v .bool,.ms 1001152,.v Ty119,.v Ty51,.v Ty125]),(2,.cells [.row (.int .u32) 60128,.v (.int .u32),.row (.sl (.int .u8)) 60130,.v .bool,.v (.int .u32),.v (.int .u32),.v (.int .u32),.v (.int .u32),.v .bool,.v .bool,.v (.int .u32),.v (.int .i64),.v (.int .i64),.v (.int .i64),.v .bool,.v (.int .i64),.v (.int .i64),.v (.int .i64),.row Ty76 60146,.v (.int .i64),.row (.int .i64) 60148,.v (.int .i64),.v .bool,.row (.sl (.int .u8)) 60151,.row Ty96 60152,.row Ty30 60153,.row Ty117 60154]),(1001920,.msk Ty96),(1002112,.msk Ty30),(1002304,.msk Ty117),(1000768,.row (.int .u32)),(1000769,.row (.sl (.int .u8))),(1000960,.row Ty76),(1001600,.row (.int .i64)),(1001152,.row (.sl (.int .u8)))] }
abbrev e110r_L0:List (XT×Shape):=[(.exit 0,{ slots:=[(1,.bx 1 0),(2,.bx 2 0),(3,.ms 1001920),(4,.ms 1002112),(5,.ms 1002304)],boxes:=[(1,.cells [.ms 1000768,.v (.int .u32),.ms 1000769,.v .bool,.v (.int .u32),.v (.int .u32),.v (.int .u32),.v (.int .u32),.v .bool,.v .bool,.v (.int .u32),.v (.int .i64),.v (.int .i64),.v (.int .i64),.v .bool,.v (.int .i64),.v (.int .i64),.v (.int .i64),.ms 1000960,.v (.int .i64),.ms 1001600,.v (.int .i64),.v .bool,.ms 1001152,.v Ty119,.v Ty51,.v Ty125]),(2,.cells [.ms 60128,.v (.int .u32),.ms 60130,.v .bool,.v (.int .u32),.v (.int .u32),.v (.int .u32),.v (.int .u32),.v .bool,.v .bool,.v (.int .u32),.v (.int .i64),.v (.int .i64),.v (.int .i64),.v .bool,.v (.int .i64),.v (.int .i64),.v (.int .i64),.ms 60146,.v (.int .i64),.ms 60148,.v (.int .i64),.v .bool,.ms 60151,.ms 60152,.ms 60153,.ms 60154]),(1001920,.row Ty96),(1002112,.row Ty30),(1002304,.msk Ty117),(1000768,.row (.int .u32)),(1000769,.row (.sl (.int .u8))),(1000960,.row Ty76),(1001600,.row (.int .i64)),(1001152,.row (.sl (.int .u8))),(60128,.row (.int .u32)),(60130,.row (.sl (.int .u8))),(60146,.row Ty76),(60148,.row (.int .i64)),(60151,.row (.sl (.int .u8))),(60152,.row Ty96),(60153,.row Ty30),(60154,.row Ty117)] })]
noncomputable def q110r_L0 (t38:Int) (t39:Int) (b1_1:Int) (b1_3:Bool) (b1_4:Int) (b1_5:Int) (b1_6:Int) (b1_7:Int) (b1_8:Bool) (b1_9:Bool) (b1_10:Int) (b1_11:Int) (b1_12:Int) (b1_13:Int) (b1_14:Bool) (b1_15:Int) (b1_16:Int) (b1_17:Int) (b1_19:Int) (b1_21:Int) (b1_22:Bool) (b1_24:Ta1) (b1_25:(L ((L Int)×Unit))) (b1_26:Ta18) (b2_0:(L Int)) (b2_1:Int) (b2_2:(L (L Int))) (b2_3:Bool) (b2_4:Int) (b2_5:Int) (b2_6:Int) (b2_7:Int) (b2_8:Bool) (b2_9:Bool) (b2_10:Int) (b2_11:Int) (b2_12:Int) (b2_13:Int) (b2_14:Bool) (b2_15:Int) (b2_16:Int) (b2_17:Int) (b2_18:Ta6) (b2_19:Int) (b2_20:(L Int)) (b2_21:Int) (b2_22:Bool) (b2_23:(L (L Int))) (b2_24:Ta1) (b2_25:(L ((L Int)×Unit))) (b2_26:Ta18) (r1001920:Ta1) (m1001920:(Nat→Bool)) (r1002112:(L ((L Int)×Unit))) (m1002112:(Nat→Bool)) (r1002304:Ta18) (m1002304:(Nat→Bool)) (r1000768:(L Int)) (r1000769:(L (L Int))) (r1000960:Ta6) (r1001600:(L Int)) (r1001152:(L (L Int))):Option ((Ta122×(Ta321×(Ta338×((Ta1×(Nat→Bool))×(((L ((L Int)×Unit))×(Nat→Bool))×((Ta18×(Nat→Bool))×((L Int)×((L (L Int))×(Ta6×Ta21)))))))))⊕(((Unit×Ta39)×(Ta321×(Ta270×(Ta1×((L ((L Int)×Unit))×((Ta18×(Nat→Bool))×Ta320))))))⊕Empty)) :=
bif (decide (t39 < t38)) then bif (decide (0≤t39)&&decide (t39 < (r1001920.len:Int))) then (g196r ((L.get r1001920 t39.toNat).1,((L.get r1001920 t39.toNat).2.1,()))).bind fun y8=>bif (decide (0≤t39)&&decide (t39 < (r1001920.len:Int))) then bif (decide (0≤t39)&&decide (t39 < (r1002112.len:Int))) then (g197r (L.get r1002112 t39.toNat).1).bind fun y9=>bif (decide (0≤t39)&&decide (t39 < (r1002112.len:Int))) then some (.inl (((),((),((),((),((),((),(t38,((wI (t39 + (1:Int))),())))))))),(((),(b1_1,((),(b1_3,(b1_4,(b1_5,(b1_6,(b1_7,(b1_8,(b1_9,(b1_10,(b1_11,(b1_12,(b1_13,(b1_14,(b1_15,(b1_16,(b1_17,((),(b1_19,((),(b1_21,(b1_22,((),(b1_24,(b1_25,(b1_26,()))))))))))))))))))))))))))),((b2_0,(b2_1,(b2_2,(b2_3,(b2_4,(b2_5,(b2_6,(b2_7,(b2_8,(b2_9,(b2_10,(b2_11,(b2_12,(b2_13,(b2_14,(b2_15,(b2_16,(b2_17,(b2_18,(b2_19,(b2_20,(b2_21,(b2_22,(b2_23,(b2_24,(b2_25,(b2_26,()))))))))))))))))))))))))))),(((L.set r1001920 t39.toNat y8.1.1),(Go.VE.upd m1001920 t39.toNat true)),(((L.set r1002112 t39.toNat y9.1),(Go.VE.upd m1002112 t39.toNat true)),((r1002304,m1002304),(r1000768,(r1000769,(r1000960,(r1001600,(r1001152,())))))))))))) else none else none else none else none else om .inr (om .inl (om (fun y=>(((),((),((),((),((),()))))),y)) (om (fun y=>(((),(b1_1,((),(b1_3,(b1_4,(b1_5,(b1_6,(b1_7,(b1_8,(b1_9,(b1_10,(b1_11,(b1_12,(b1_13,(b1_14,(b1_15,(b1_16,(b1_17,((),(b1_19,((),(b1_21,(b1_22,((),(b1_24,(b1_25,(b1_26,()))))))))))))))))))))))))))),y)) (om (fun y=>(((),(b2_1,((),(b2_3,(b2_4,(b2_5,(b2_6,(b2_7,(b2_8,(b2_9,(b2_10,(b2_11,(b2_12,(b2_13,(b2_14,(b2_15,(b2_16,(b2_17,((),(b2_19,((),(b2_21,(b2_22,((),((),((),((),()))))))))))))))))))))))))))),y)) (bif (allOwn (some m1001920) r1001920.len) then (om (fun y=>(r1001920,y)) (bif (allOwn (some m1002112) r1002112.len) then some (r1002112,((r1002304,m1002304),(r1000768,(r1000769,(r1000960,(r1001600,(r1001152,(b2_0,(b2_2,(b2_18,(b2_20,(b2_23,(b2_24,(b2_25,(b2_26,()))))))))))))))) else none)) else none)))))
noncomputable def s110r_L0 (x:(Ta122×(Ta321×(Ta338×((Ta1×(Nat→Bool))×(((L ((L Int)×Unit))×(Nat→Bool))×((Ta18×(Nat→Bool))×((L Int)×((L (L Int))×(Ta6×Ta21)))))))))):=q110r_L0 x.1.2.2.2.2.2.2.1 x.1.2.2.2.2.2.2.2.1 x.2.1.2.1 x.2.1.2.2.2.1 x.2.1.2.2.2.2.1 x.2.1.2.2.2.2.2.1 x.2.1.2.2.2.2.2.2.1 x.2.1.2.2.2.2.2.2.2.1 x.2.1.2.2.2.2.2.2.2.2.1 x.2.1.2.2.2.2.2.2.2.2.2.1 x.2.1.2.2.2.2.2.2.2.2.2.2.1 x.2.1.2.2.2.2.2.2.2.2.2.2.2.1 x.2.1.2.2.2.2.2.2.2.2.2.2.2.2.1 x.2.1.2.2.2.2.2.2.2.2.2.2.2.2.2.1 x.2.1.2.2.2.2.2.2.2.2.2.2.2.2.2.2.1 x.2.1.2.2.2.2.2.2.2.2.2.2.2.2.2.2.2.1 x.2.1.2.2.2.2.2.2.2.2.2.2.2.2.2.2.2.2.1 x.2.1.2.2.2.2.2.2.2.2.2.2.2.2.2.2.2.2.2.1 x.2.1.2.2.2.2.2.2.2.2.2.2.2.2.2.2.2.2.2.2.2.1 x.2.1.2.2.2.2.2.2.2.2.2.2.2.2.2.2.2.2.2.2.2.2.2.1 x.2.1.2.2.2.2.2.2.2.2.2.2.2.2.2.2.2.2.2.2.2.2.2.2.1 x.2.1.2.2.2.2.2.2.2.2.2.2.2.2.2.2.2.2.2.2.2.2.2.2.2.2.1 x.2.1.2.2.2.2.2.2.2.2.2.2.2.2.2.2.2.2.2.2.2.2.2.2.2.2.2.1 x.2.1.2.2.2.2.2.2.2.2.2.2.2.2.2.2.2.2.2.2.2.2.2.2.2.2.2.2.1 x.2.2.1.1 x.2.2.1.2.1 x.2.2.1.2.2.1 x.2.2.1.2.2.2.1 x.2.2.1.2.2.2.2.1 x.2.2.1.2.2.2.2.2.1 x.2.2.1.2.2.2.2.2.2.1 x.2.2.1.2.2.2.2.2.2.2.1 x.2.2.1.2.2.2.2.2.2.2.2.1 x.2.2.1.2.2.2.2.2.2.2.2.2.1 x.2.2.1.2.2.2.2.2.2.2.2.2.2.1 x.2.2.1.2.2.2.2.2.2.2.2.2.2.2.1 x.2.2.1.2.2.2.2.2.2.2.2.2.2.2.2.1 x.2.2.1.2.2.2.2.2.2.2.2.2.2.2.2.2.1 x.2.2.1.2.2.2.2.2.2.2.2.2.2.2.2.2.2.1 x.2.2.1.2.2.2.2.2.2.2.2.2.2.2.2.2.2.2.1 x.2.2.1.2.2.2.2.2.2.2.2.2.2.2.2.2.2.2.2.1 x.2.2.1.2.2.2.2.2.2.2.2.2.2.2.2.2.2.2.2.2.1 x.2.2.1.2.2.2.2.2.2.2.2.2.2.2.2.2.2.2.2.2.2.1 x.2.2.1.2.2.2.2.2.2.2.2.2.2.2.2.2.2.2.2.2.2.2.1 x.2.2.1.2.2.2.2.2.2.2.2.2.2.2.2.2.2.2.2.2.2.2.2.1 x.2.2.1.2.2.2.2.2.2.2.2.2.2.2.2.2.2.2.2.2.2.2.2.2.1 x.2.2.1.2.2.2.2.2.2.2.2.2.2.2.2.2.2.2.2.2.2.2.2.2.2.1 x.2.2.1.2.2.2.2.2.2.2.2.2.2.2.2.2.2.2.2.2.2.2.2.2.2.2.1 x.2.2.1.2.2.2.2.2.2.2.2.2.2.2.2.2.2.2.2.2.2.2.2.2.2.2.2.1 x.2.2.1.2.2.2.2.2.2.2.2.2.2.2.2.2.2.2.2.2.2.2.2.2.2.2.2.2.1 x.2.2.1.2.2.2.2.2.2.2.2.2.2.2.2.2.2.2.2.2.2.2.2.2.2.2.2.2.2.1 x.2.2.2.1.1 x.2.2.2.1.2 x.2.2.2.2.1.1 x.2.2.2.2.1.2 x.2.2.2.2.2.1.1 x.2.2.2.2.2.1.2 x.2.2.2.2.2.2.1 x.2.2.2.2.2.2.2.1 x.2.2.2.2.2.2.2.2.1 x.2.2.2.2.2.2.2.2.2.1 x.2.2.2.2.2.2.2.2.2.2.1
abbrev h110r_L2:Shape:={ slots:=[(1,.bx 1 0),(2,.bx 2 0),(3,.ms 1001920),(4,.ms 1002112),(5,.ms 1002304),(60,.ms 1002304),(61,.v (.int .i64)),(62,.v (.int .i64))],boxes:=[(1,.cells [.ms 1000768,.v (.int .u32),.ms 1000769,.v .bool,.v (.int .u32),.v (.int .u32),.v (.int .u32),.v (.int .u32),.v .bool,.v .bool,.v (.int .u32),.v (.int .i64),.v (.int .i64),.v (.int .i64),.v .bool,.v (.int .i64),.v (.int .i64),.v (.int .i64),.ms 1000960,.v (.int .i64),.ms 1001600,.v (.int .i64),.v .bool,.ms 1001152,.v Ty119,.v Ty51,.v Ty125]),(2,.cells [.ms 60128,.v (.int .u32),.ms 60130,.v .bool,.v (.int .u32),.v (.int .u32),.v (.int .u32),.v (.int .u32),.v .bool,.v .bool,.v (.int .u32),.v (.int .i64),.v (.int .i64),.v (.int .i64),.v .bool,.v (.int .i64),.v (.int .i64),.v (.int .i64),.ms 60146,.v (.int .i64),.ms 60148,.v (.int .i64),.v .bool,.ms 60151,.ms 60152,.ms 60153,.ms 60154]),(1001920,.row Ty96),(1002112,.row Ty30),(1002304,.msk Ty117),(1000768,.row (.int .u32)),(1000769,.row (.sl (.int .u8))),(1000960,.row Ty76),(1001600,.row (.int .i64)),(1001152,.row (.sl (.int .u8))),(60128,.row (.int .u32)),(60130,.row (.sl (.int .u8))),(60146,.row Ty76),(60148,.row (.int .i64)),(60151,.row (.sl (.int .u8))),(60152,.row Ty96),(60153,.row Ty30),(60154,.row Ty117)] }
abbrev e110r_L2:List (XT×Shape):=[(.exit 2,{ slots:=[(1,.bx 1 0),(2,.bx 2 0),(3,.ms 1001920),(4,.ms 1002112),(5,.ms 1002304)],boxes:=[(1,.cells [.ms 1000768,.v (.int .u32),.ms 1000769,.v .bool,.v (.int .u32),.v (.int .u32),.v (.int .u32),.v (.int .u32),.v .bool,.v .bool,.v (.int .u32),.v (.int .i64),.v (.int .i64),.v (.int .i64),.v .bool,.v (.int .i64),.v (.int .i64),.v (.int .i64),.ms 1000960,.v (.int .i64),.ms 1001600,.v (.int .i64),.v .bool,.ms 1001152,.v Ty119,.v Ty51,.v Ty125]),(2,.cells [.ms 60128,.v (.int .u32),.ms 60130,.v .bool,.v (.int .u32),.v (.int .u32),.v (.int .u32),.v (.int .u32),.v .bool,.v .bool,.v (.int .u32),.v (.int .i64),.v (.int .i64),.v (.int .i64),.v .bool,.v (.int .i64),.v (.int .i64),.v (.int .i64),.ms 60146,.v (.int .i64),.ms 60148,.v (.int .i64),.v .bool,.ms 60151,.ms 60152,.ms 60153,.ms 60154]),(1001920,.row Ty96),(1002112,.row Ty30),(1002304,.row Ty117),(1000768,.row (.int .u32)),(1000769,.row (.sl (.int .u8))),(1000960,.row Ty76),(1001600,.row (.int .i64)),(1001152,.row (.sl (.int .u8))),(60128,.row (.int .u32)),(60130,.row (.sl (.int .u8))),(60146,.row Ty76),(60148,.row (.int .i64)),(60151,.row (.sl (.int .u8))),(60152,.row Ty96),(60153,.row Ty30),(60154,.row Ty117)] })]
noncomputable def q110r_L2 (t61:Int) (t62:Int) (b1_1:Int) (b1_3:Bool) (b1_4:Int) (b1_5:Int) (b1_6:Int) (b1_7:Int) (b1_8:Bool) (b1_9:Bool) (b1_10:Int) (b1_11:Int) (b1_12:Int) (b1_13:Int) (b1_14:Bool) (b1_15:Int) (b1_16:Int) (b1_17:Int) (b1_19:Int) (b1_21:Int) (b1_22:Bool) (b1_24:Ta1) (b1_25:(L ((L Int)×Unit))) (b1_26:Ta18) (b2_1:Int) (b2_3:Bool) (b2_4:Int) (b2_5:Int) (b2_6:Int) (b2_7:Int) (b2_8:Bool) (b2_9:Bool) (b2_10:Int) (b2_11:Int) (b2_12:Int) (b2_13:Int) (b2_14:Bool) (b2_15:Int) (b2_16:Int) (b2_17:Int) (b2_19:Int) (b2_21:Int) (b2_22:Bool) (r1001920:Ta1) (r1002112:(L ((L Int)×Unit))) (r1002304:Ta18) (m1002304:(Nat→Bool)) (r1000768:(L Int)) (r1000769:(L (L Int))) (r1000960:Ta6) (r1001600:(L Int)) (r1001152:(L (L Int))) (r60128:(L Int)) (r60130:(L (L Int))) (r60146:Ta6) (r60148:(L Int)) (r60151:(L (L Int))) (r60152:Ta1) (r60153:(L ((L Int)×Unit))) (r60154:Ta18):Option ((Ta122×(Ta321×(Ta270×(Ta1×((L ((L Int)×Unit))×((Ta18×(Nat→Bool))×Ta320))))))⊕(((Unit×Ta39)×(Ta321×(Ta270×(Ta1×((L ((L Int)×Unit))×(Ta18×Ta320))))))⊕Empty)) :=
bif (decide (t62 < t61)) then bif (decide (0≤t62)&&decide (t62 < (r1002304.len:Int))) then (g198r ((L.get r1002304 t62.toNat).1,((L.get r1002304 t62.toNat).2.1,()))).bind fun y11=>bif (decide (0≤t62)&&decide (t62 < (r1002304.len:Int))) then some (.inl (((),((),((),((),((),((),(t61,((wI (t62 + (1:Int))),())))))))),(((),(b1_1,((),(b1_3,(b1_4,(b1_5,(b1_6,(b1_7,(b1_8,(b1_9,(b1_10,(b1_11,(b1_12,(b1_13,(b1_14,(b1_15,(b1_16,(b1_17,((),(b1_19,((),(b1_21,(b1_22,((),(b1_24,(b1_25,(b1_26,()))))))))))))))))))))))))))),(((),(b2_1,((),(b2_3,(b2_4,(b2_5,(b2_6,(b2_7,(b2_8,(b2_9,(b2_10,(b2_11,(b2_12,(b2_13,(b2_14,(b2_15,(b2_16,(b2_17,((),(b2_19,((),(b2_21,(b2_22,((),((),((),((),()))))))))))))))))))))))))))),(r1001920,(r1002112,(((L.set r1002304 t62.toNat y11.1.1),(Go.VE.upd m1002304 t62.toNat true)),(r1000768,(r1000769,(r1000960,(r1001600,(r1001152,(r60128,(r60130,(r60146,(r60148,(r60151,(r60152,(r60153,(r60154,())))))))))))))))))))) else none else none else om .inr (om .inl (om (fun y=>(((),((),((),((),((),()))))),y)) (om (fun y=>(((),(b1_1,((),(b1_3,(b1_4,(b1_5,(b1_6,(b1_7,(b1_8,(b1_9,(b1_10,(b1_11,(b1_12,(b1_13,(b1_14,(b1_15,(b1_16,(b1_17,((),(b1_19,((),(b1_21,(b1_22,((),(b1_24,(b1_25,(b1_26,()))))))))))))))))))))))))))),y)) (om (fun y=>(((),(b2_1,((),(b2_3,(b2_4,(b2_5,(b2_6,(b2_7,(b2_8,(b2_9,(b2_10,(b2_11,(b2_12,(b2_13,(b2_14,(b2_15,(b2_16,(b2_17,((),(b2_19,((),(b2_21,(b2_22,((),((),((),((),()))))))))))))))))))))))))))),y)) (om (fun y=>(r1001920,y)) (om (fun y=>(r1002112,y)) (bif (allOwn (some m1002304) r1002304.len) then some (r1002304,(r1000768,(r1000769,(r1000960,(r1001600,(r1001152,(r60128,(r60130,(r60146,(r60148,(r60151,(r60152,(r60153,(r60154,())))))))))))))) else none)))))))
noncomputable def s110r_L2 (x:(Ta122×(Ta321×(Ta270×(Ta1×((L ((L Int)×Unit))×((Ta18×(Nat→Bool))×Ta320))))))):=q110r_L2 x.1.2.2.2.2.2.2.1 x.1.2.2.2.2.2.2.2.1 x.2.1.2.1 x.2.1.2.2.2.1 x.2.1.2.2.2.2.1 x.2.1.2.2.2.2.2.1 x.2.1.2.2.2.2.2.2.1 x.2.1.2.2.2.2.2.2.2.1 x.2.1.2.2.2.2.2.2.2.2.1 x.2.1.2.2.2.2.2.2.2.2.2.1 x.2.1.2.2.2.2.2.2.2.2.2.2.1 x.2.1.2.2.2.2.2.2.2.2.2.2.2.1 x.2.1.2.2.2.2.2.2.2.2.2.2.2.2.1 x.2.1.2.2.2.2.2.2.2.2.2.2.2.2.2.1 x.2.1.2.2.2.2.2.2.2.2.2.2.2.2.2.2.1 x.2.1.2.2.2.2.2.2.2.2.2.2.2.2.2.2.2.1 x.2.1.2.2.2.2.2.2.2.2.2.2.2.2.2.2.2.2.1 x.2.1.2.2.2.2.2.2.2.2.2.2.2.2.2.2.2.2.2.1 x.2.1.2.2.2.2.2.2.2.2.2.2.2.2.2.2.2.2.2.2.2.1 x.2.1.2.2.2.2.2.2.2.2.2.2.2.2.2.2.2.2.2.2.2.2.2.1 x.2.1.2.2.2.2.2.2.2.2.2.2.2.2.2.2.2.2.2.2.2.2.2.2.1 x.2.1.2.2.2.2.2.2.2.2.2.2.2.2.2.2.2.2.2.2.2.2.2.2.2.2.1 x.2.1.2.2.2.2.2.2.2.2.2.2.2.2.2.2.2.2.2.2.2.2.2.2.2.2.2.1 x.2.1.2.2.2.2.2.2.2.2.2.2.2.2.2.2.2.2.2.2.2.2.2.2.2.2.2.2.1 x.2.2.1.2.1 x.2.2.1.2.2.2.1 x.2.2.1.2.2.2.2.1 x.2.2.1.2.2.2.2.2.1 x.2.2.1.2.2.2.2.2.2.1 x.2.2.1.2.2.2.2.2.2.2.1 x.2.2.1.2.2.2.2.2.2.2.2.1 x.2.2.1.2.2.2.2.2.2.2.2.2.1 x.2.2.1.2.2.2.2.2.2.2.2.2.2.1 x.2.2.1.2.2.2.2.2.2.2.2.2.2.2.1 x.2.2.1.2.2.2.2.2.2.2.2.2.2.2.2.1 x.2.2.1.2.2.2.2.2.2.2.2.2.2.2.2.2.1 x.2.2.1.2.2.2.2.2.2.2.2.2.2.2.2.2.2.1 x.2.2.1.2.2.2.2.2.2.2.2.2.2.2.2.2.2.2.1 x.2.2.1.2.2.2.2.2.2.2.2.2.2.2.2.2.2.2.2.1 x.2.2.1.2.2.2.2.2.2.2.2.2.2.2.2.2.2.2.2.2.1 x.2.2.1.2.2.2.2.2.2.2.2.2.2.2.2.2.2.2.2.2.2.2.1 x.2.2.1.2.2.2.2.2.2.2.2.2.2.2.2.2.2.2.2.2.2.2.2.2.1 x.2.2.1.2.2.2.2.2.2.2.2.2.2.2.2.2.2.2.2.2.2.2.2.2.2.1 x.2.2.2.1 x.2.2.2.2.1 x.2.2.2.2.2.1.1 x.2.2.2.2.2.1.2 x.2.2.2.2.2.2.1 x.2.2.2.2.2.2.2.1 x.2.2.2.2.2.2.2.2.1 x.2.2.2.2.2.2.2.2.2.1 x.2.2.2.2.2.2.2.2.2.2.1 x.2.2.2.2.2.2.2.2.2.2.2.1 x.2.2.2.2.2.2.2.2.2.2.2.2.1 x.2.2.2.2.2.2.2.2.2.2.2.2.2.1 x.2.2.2.2.2.2.2.2.2.2.2.2.2.2.1 x.2.2.2.2.2.2.2.2.2.2.2.2.2.2.2.1 x.2.2.2.2.2.2.2.2.2.2.2.2.2.2.2.2.1 x.2.2.2.2.2.2.2.2.2.2.2.2.2.2.2.2.2.1 x.2.2.2.2.2.2.2.2.2.2.2.2.2.2.2.2.2.2.1
noncomputable def a110r:Nat→Option LoopAnn:=fun c=>bif Nat.beq c 0 then some (.fix h110r_L0 e110r_L0 s110r_L0) else bif Nat.beq c 2 then some (.fix h110r_L2 e110r_L2 s110r_L2) else none
noncomputable def g110r (x0:Ta348):Option Ta350 :=
(g190r x0.1).bind fun y1=>(g191r x0.2.2.2.1).bind fun y2=>(g150r x0.2.2.2.2.2.2.2.1).bind fun y3=>(g192r x0.2.2.2.2.1.2.1).bind fun y4=>(g193w x0.2.2.2.2.2.2.2.2.1).bind fun y5=>(g194w x0.2.2.2.2.2.2.2.2.2.1).bind fun y6=>(g195w x0.2.2.2.2.2.2.2.2.2.2.1).bind fun y7=>(fixO s110r_L0 (((),((),((),((),((),((),((y5.1.1.len:Int),((0:Int),())))))))),(((),(y1.1.1.2.1,((),(x0.2.1.1,(x0.2.1.2.1,(x0.2.1.2.2.1,(x0.2.1.2.2.2.1,(x0.2.1.2.2.2.2.1,(x0.2.1.2.2.2.2.2.1,(x0.2.1.2.2.2.2.2.2.1,(x0.2.1.2.2.2.2.2.2.2.1,(x0.2.2.1.1,(x0.2.2.1.2.1,(x0.2.2.1.2.2.1,(x0.2.2.1.2.2.2.1,(y2.1.1.1.1,(y2.1.1.1.2.1,(y2.1.1.1.2.2.1,((),(x0.2.2.2.2.1.1,((),(x0.2.2.2.2.2.1,(x0.2.2.2.2.2.2.1,((),x0.2.2.2.2.2.2.2.2)))))))))))))))))))))))),(((nilL (.int .u32)),((0:Int),((nilL (.sl (.int .u8))),(false,((0:Int),((0:Int),((0:Int),((0:Int),(false,(false,((0:Int),((0:Int),((0:Int),((0:Int),(false,((0:Int),((0:Int),((0:Int),((nilL Ty76),((0:Int),((nilL (.int .i64)),((0:Int),(false,((nilL (.sl (.int .u8))),((nilL Ty96),((nilL Ty30),((nilL Ty117),()))))))))))))))))))))))))))),((y5.1.1,(fun _=>false)),((y6.1.1,(fun _=>false)),((y7.1.1,(fun _=>false)),(y1.1.1.1,(y1.1.1.2.2.1,(y2.1.1.2.1,(y4.1.1,y3.1))))))))))).bind fun d14=>match d14 with | .inl y10=>((fixO s110r_L2 (((),((),((),((),((),((),((y10.2.2.2.2.2.1.1.len:Int),((0:Int),())))))))),(((),(y10.2.1.2.1,((),(y10.2.1.2.2.2.1,(y10.2.1.2.2.2.2.1,(y10.2.1.2.2.2.2.2.1,(y10.2.1.2.2.2.2.2.2.1,(y10.2.1.2.2.2.2.2.2.2.1,(y10.2.1.2.2.2.2.2.2.2.2.1,(y10.2.1.2.2.2.2.2.2.2.2.2.1,(y10.2.1.2.2.2.2.2.2.2.2.2.2.1,(y10.2.1.2.2.2.2.2.2.2.2.2.2.2.1,(y10.2.1.2.2.2.2.2.2.2.2.2.2.2.2.1,(y10.2.1.2.2.2.2.2.2.2.2.2.2.2.2.2.1,(y10.2.1.2.2.2.2.2.2.2.2.2.2.2.2.2.2.1,(y10.2.1.2.2.2.2.2.2.2.2.2.2.2.2.2.2.2.1,(y10.2.1.2.2.2.2.2.2.2.2.2.2.2.2.2.2.2.2.1,(y10.2.1.2.2.2.2.2.2.2.2.2.2.2.2.2.2.2.2.2.1,((),(y10.2.1.2.2.2.2.2.2.2.2.2.2.2.2.2.2.2.2.2.2.2.1,((),(y10.2.1.2.2.2.2.2.2.2.2.2.2.2.2.2.2.2.2.2.2.2.2.2.1,(y10.2.1.2.2.2.2.2.2.2.2.2.2.2.2.2.2.2.2.2.2.2.2.2.2.1,((),y10.2.1.2.2.2.2.2.2.2.2.2.2.2.2.2.2.2.2.2.2.2.2.2.2.2.2)))))))))))))))))))))))),(((),(y10.2.2.1.2.1,((),(y10.2.2.1.2.2.2.1,(y10.2.2.1.2.2.2.2.1,(y10.2.2.1.2.2.2.2.2.1,(y10.2.2.1.2.2.2.2.2.2.1,(y10.2.2.1.2.2.2.2.2.2.2.1,(y10.2.2.1.2.2.2.2.2.2.2.2.1,(y10.2.2.1.2.2.2.2.2.2.2.2.2.1,(y10.2.2.1.2.2.2.2.2.2.2.2.2.2.1,(y10.2.2.1.2.2.2.2.2.2.2.2.2.2.2.1,(y10.2.2.1.2.2.2.2.2.2.2.2.2.2.2.2.1,(y10.2.2.1.2.2.2.2.2.2.2.2.2.2.2.2.2.1,(y10.2.2.1.2.2.2.2.2.2.2.2.2.2.2.2.2.2.1,(y10.2.2.1.2.2.2.2.2.2.2.2.2.2.2.2.2.2.2.1,(y10.2.2.1.2.2.2.2.2.2.2.2.2.2.2.2.2.2.2.2.1,(y10.2.2.1.2.2.2.2.2.2.2.2.2.2.2.2.2.2.2.2.2.1,((),(y10.2.2.1.2.2.2.2.2.2.2.2.2.2.2.2.2.2.2.2.2.2.2.1,((),(y10.2.2.1.2.2.2.2.2.2.2.2.2.2.2.2.2.2.2.2.2.2.2.2.2.1,(y10.2.2.1.2.2.2.2.2.2.2.2.2.2.2.2.2.2.2.2.2.2.2.2.2.2.1,((),((),((),((),()))))))))))))))))))))))))))),(y10.2.2.2.1,(y10.2.2.2.2.1,((y10.2.2.2.2.2.1.1,y10.2.2.2.2.2.1.2),y10.2.2.2.2.2.2))))))).bind fun d13=>match d13 with | .inl y12=>some ((((y12.2.2.2.2.2.2.1,(y12.2.1.2.1,(y12.2.2.2.2.2.2.2.1,()))),((y12.2.1.2.2.2.1,(y12.2.1.2.2.2.2.1,(y12.2.1.2.2.2.2.2.1,(y12.2.1.2.2.2.2.2.2.1,(y12.2.1.2.2.2.2.2.2.2.1,(y12.2.1.2.2.2.2.2.2.2.2.1,(y12.2.1.2.2.2.2.2.2.2.2.2.1,(y12.2.1.2.2.2.2.2.2.2.2.2.2.1,())))))))),((y12.2.1.2.2.2.2.2.2.2.2.2.2.2.1,(y12.2.1.2.2.2.2.2.2.2.2.2.2.2.2.1,(y12.2.1.2.2.2.2.2.2.2.2.2.2.2.2.2.1,(y12.2.1.2.2.2.2.2.2.2.2.2.2.2.2.2.2.1,())))),(((y12.2.1.2.2.2.2.2.2.2.2.2.2.2.2.2.2.2.1,(y12.2.1.2.2.2.2.2.2.2.2.2.2.2.2.2.2.2.2.1,(y12.2.1.2.2.2.2.2.2.2.2.2.2.2.2.2.2.2.2.2.1,()))),(y12.2.2.2.2.2.2.2.2.1,())),((y12.2.1.2.2.2.2.2.2.2.2.2.2.2.2.2.2.2.2.2.2.2.1,(y12.2.2.2.2.2.2.2.2.2.1,())),(y12.2.1.2.2.2.2.2.2.2.2.2.2.2.2.2.2.2.2.2.2.2.2.2.1,(y12.2.1.2.2.2.2.2.2.2.2.2.2.2.2.2.2.2.2.2.2.2.2.2.2.1,(y12.2.2.2.2.2.2.2.2.2.2.1,(y12.2.2.2.1,(y12.2.2.2.2.1,(y12.2.2.2.2.2.1,()))))))))))),()),()) | .inr e=>nomatch e) | .inr e=>nomatch e
noncomputable def c110r:Ctr:={ ins:=[.v Ty371],out:=[Ty371],F:=fun x=>g110r x.1,fr:=1 }
noncomputable def l110r:List (Nat×Code):=loopsIn (Tryz.f110.body.getD .skip) 0
theorem w110r_L0:LW t110r a110r l110r 0 0 h110r_L0 e110r_L0 s110r_L0:=fun x=>by kernel_rfl
theorem w110r_L2:LW t110r a110r l110r 1 2 h110r_L2 e110r_L2 s110r_L2:=fun x=>by kernel_rfl
theorem o110r:Holds Tryz.prog 110 c110r:=fh t110r a110r Tryz.func110 [(0,lg l110r 0),(2,lg l110r 1)] ⟨fun x d h=>(w110r_L0 x).trans h,fun x d h=>(w110r_L2 x).trans h,trivial⟩ (tc o190r (tc o191r (tc o150r (tc o192r (tc o193w (tc o194w (tc o195w (tc o196r (tc o197r (tc o198r tn))))))))))
noncomputable def t111p:Tbl:=[]
noncomputable def g111p (x0:Ta2) (x1:Int):Option ((Bool×Unit)×Ta34) :=
bif ((x0.1.len:Int) == (8:Int)) then some ((false,()),(x0,())) else bif (decide (x0.1.len + (L.of (Ty.zero (.int .u32)) [x1]).len≤most)) then some ((true,()),(((L.app x0.1 (L.of (Ty.zero (.int .u32)) [x1])),x0.2),())) else none
noncomputable def c111p:Ctr:={ ins:=[.pt Ty117,.v (.int .u32)],out:=[.bool],F:=fun x=>g111p x.1 x.2.1 }
theorem o111p:Holds Tryz.prog 111 c111p:=f0 t111p Tryz.func111 tn
noncomputable def t25r:Tbl:=[(108,[],c108),(109,[],c109),(110,[],c110r),(111,[],c111p)]
noncomputable def g25r (x0:Ta330) (x1:Int) (x2:Ta348) (x3:Int) (x4:Int):Option ((Ta348×(Bool×Unit))×Unit) :=
(g108 x0 x1 x2).bind fun y1=>bif (!y1.1.1) then some (((((nilL (.int .u32)),((0:Int),((nilL (.sl (.int .u8))),()))),((false,((0:Int),((0:Int),((0:Int),((0:Int),(false,(false,((0:Int),())))))))),(((0:Int),((0:Int),((0:Int),(false,())))),((((0:Int),((0:Int),((0:Int),()))),((nilL Ty76),())),(((0:Int),((nilL (.int .i64)),())),((0:Int),(false,((nilL (.sl (.int .u8))),((nilL Ty96),((nilL Ty30),((nilL Ty117),()))))))))))),false,()),()) else (g109 x0 x1 x3).bind fun y2=>bif (!y2.1.1) then some (((((nilL (.int .u32)),((0:Int),((nilL (.sl (.int .u8))),()))),((false,((0:Int),((0:Int),((0:Int),((0:Int),(false,(false,((0:Int),())))))))),(((0:Int),((0:Int),((0:Int),(false,())))),((((0:Int),((0:Int),((0:Int),()))),((nilL Ty76),())),(((0:Int),((nilL (.int .i64)),())),((0:Int),(false,((nilL (.sl (.int .u8))),((nilL Ty96),((nilL Ty30),((nilL Ty117),()))))))))))),false,()),()) else (g110r x2).bind fun y3=>bif (decide (0≤x3)&&decide (x3 < (y3.1.1.2.2.2.2.2.2.2.2.2.2.1.len:Int))) then (g111p (L.get y3.1.1.2.2.2.2.2.2.2.2.2.2.1 x3.toNat) x4).bind fun y4=>some ((((y3.1.1.1.1,(y3.1.1.1.2.1,y3.1.1.1.2.2)),(y3.1.1.2.1,(y3.1.1.2.2.1,((y3.1.1.2.2.2.1.1,y3.1.1.2.2.2.1.2),((y3.1.1.2.2.2.2.1.1,y3.1.1.2.2.2.2.1.2),(y3.1.1.2.2.2.2.2.1,(y3.1.1.2.2.2.2.2.2.1,(y3.1.1.2.2.2.2.2.2.2.1,(y3.1.1.2.2.2.2.2.2.2.2.1,(y3.1.1.2.2.2.2.2.2.2.2.2.1,((L.set y3.1.1.2.2.2.2.2.2.2.2.2.2.1 x3.toNat y4.2.1),()))))))))))),y4.1.1,()),()) else none
noncomputable def c25r:Ctr:={ ins:=[.v Ty370,.v (.int .i64),.v Ty371,.v (.int .i64),.v (.int .u32)],out:=[Ty371,.bool],F:=fun x=>g25r x.1 x.2.1 x.2.2.1 x.2.2.2.1 x.2.2.2.2.1,fr:=1 }
theorem o25r:Holds Tryz.prog 25 c25r:=f0 t25r Tryz.func25 (tc o108 (tc o109 (tc o110r (tc o111p tn))))
noncomputable def t151:Tbl:=[]
abbrev h151_L0:Shape:={ slots:=[(0,.v (.sl (.int .u32))),(1,.v (.sl (.int .u32))),(5,.v (.int .i64))],boxes:=[] }
abbrev e151_L0:List (XT×Shape):=[(.ret,{ slots:=[(4,.v .bool)],boxes:=[] }),(.exit 0,{ slots:=[],boxes:=[] })]
noncomputable def q151_L0 (t0:(L Int)) (t1:(L Int)) (t5:Int):Option (Ta54⊕(((Bool×Unit)×Unit)⊕((Unit×Unit)⊕Empty))) :=
bif (decide (t5 < (t0.len:Int))) then bif (decide (0≤t5)&&decide (t5 < (t0.len:Int))) then bif (decide (0≤t5)&&decide (t5 < (t1.len:Int))) then bif ((L.get t0 t5.toNat) != (L.get t1 t5.toNat)) then some (.inr (.inl ((false,()),()))) else some (.inl ((t0,(t1,((wI (t5 + (1:Int))),()))),())) else none else none else some (.inr (.inr (.inl ((),()))))
noncomputable def s151_L0 (x:Ta54):=q151_L0 x.1.1 x.1.2.1 x.1.2.2.1
noncomputable def a151:Nat→Option LoopAnn:=fun c=>bif Nat.beq c 0 then some (.fix h151_L0 e151_L0 s151_L0) else none
noncomputable def g151 (x0:(L Int)) (x1:(L Int)):Option ((Bool×Unit)×Unit) :=
bif ((x0.len:Int) != (x1.len:Int)) then some ((false,()),()) else (fixO s151_L0 ((x0,(x1,((0:Int),()))),())).bind fun d2=>match d2 with | .inl y1=>some ((y1.1.1,()),()) | .inr (.inl y1)=>some ((true,()),()) | .inr (.inr e)=>nomatch e
noncomputable def c151:Ctr:={ ins:=[.v (.sl (.int .u32)),.v (.sl (.int .u32))],out:=[.bool],F:=fun x=>g151 x.1 x.2.1 }
noncomputable def l151:List (Nat×Code):=loopsIn (Tryz.f151.body.getD .skip) 0
theorem w151_L0:LW t151 a151 l151 0 0 h151_L0 e151_L0 s151_L0:=fun x=>by kernel_rfl
theorem o151:Holds Tryz.prog 151 c151:=fh t151 a151 Tryz.func151 [(0,lg l151 0)] ⟨fun x d h=>(w151_L0 x).trans h,trivial⟩ tn
noncomputable def t71:Tbl:=[]
abbrev h71_L0:Shape:={ slots:=[(0,.v (.sl (.int .u8))),(1,.v (.sl (.int .u8))),(5,.v (.int .i64))],boxes:=[] }
abbrev e71_L0:List (XT×Shape):=[(.ret,{ slots:=[(4,.v .bool)],boxes:=[] }),(.exit 0,{ slots:=[],boxes:=[] })]
noncomputable def q71_L0 (t0:(L Int)) (t1:(L Int)) (t5:Int):Option (Ta54⊕(((Bool×Unit)×Unit)⊕((Unit×Unit)⊕Empty))) :=
bif (decide (t5 < (t0.len:Int))) then bif (decide (0≤t5)&&decide (t5 < (t0.len:Int))) then bif (decide (0≤t5)&&decide (t5 < (t1.len:Int))) then bif ((L.get t0 t5.toNat) != (L.get t1 t5.toNat)) then some (.inr (.inl ((false,()),()))) else some (.inl ((t0,(t1,((wI (t5 + (1:Int))),()))),())) else none else none else some (.inr (.inr (.inl ((),()))))
noncomputable def s71_L0 (x:Ta54):=q71_L0 x.1.1 x.1.2.1 x.1.2.2.1
noncomputable def a71:Nat→Option LoopAnn:=fun c=>bif Nat.beq c 0 then some (.fix h71_L0 e71_L0 s71_L0) else none
noncomputable def g71 (x0:(L Int)) (x1:(L Int)):Option ((Bool×Unit)×Unit) :=
bif ((x0.len:Int) != (x1.len:Int)) then some ((false,()),()) else (fixO s71_L0 ((x0,(x1,((0:Int),()))),())).bind fun d2=>match d2 with | .inl y1=>some ((y1.1.1,()),()) | .inr (.inl y1)=>some ((true,()),()) | .inr (.inr e)=>nomatch e
noncomputable def c71:Ctr:={ ins:=[.v (.sl (.int .u8)),.v (.sl (.int .u8))],out:=[.bool],F:=fun x=>g71 x.1 x.2.1 }
noncomputable def l71:List (Nat×Code):=loopsIn (Tryz.f71.body.getD .skip) 0
theorem w71_L0:LW t71 a71 l71 0 0 h71_L0 e71_L0 s71_L0:=fun x=>by kernel_rfl
theorem o71:Holds Tryz.prog 71 c71:=fh t71 a71 Tryz.func71 [(0,lg l71 0)] ⟨fun x d h=>(w71_L0 x).trans h,trivial⟩ tn
noncomputable def t17:Tbl:=[(71,[],c71)]
abbrev h17_L0:Shape:={ slots:=[(0,.v (.sl (.sl (.int .u8)))),(1,.v (.sl (.sl (.int .u8)))),(5,.v (.int .i64))],boxes:=[] }
abbrev e17_L0:List (XT×Shape):=[(.ret,{ slots:=[(4,.v .bool)],boxes:=[] }),(.exit 0,{ slots:=[],boxes:=[] })]
noncomputable def q17_L0 (t0:(L (L Int))) (t1:(L (L Int))) (t5:Int):Option ((((L (L Int))×((L (L Int))×(Int×Unit)))×Unit)⊕(((Bool×Unit)×Unit)⊕((Unit×Unit)⊕Empty))) :=
bif (decide (t5 < (t0.len:Int))) then bif (decide (0≤t5)&&decide (t5 < (t0.len:Int))) then bif (decide (0≤t5)&&decide (t5 < (t1.len:Int))) then (g71 (L.get t0 t5.toNat) (L.get t1 t5.toNat)).bind fun y1=>bif (!y1.1.1) then some (.inr (.inl ((false,()),()))) else some (.inl ((t0,(t1,((wI (t5 + (1:Int))),()))),())) else none else none else some (.inr (.inr (.inl ((),()))))
noncomputable def s17_L0 (x:(((L (L Int))×((L (L Int))×(Int×Unit)))×Unit)):=q17_L0 x.1.1 x.1.2.1 x.1.2.2.1
noncomputable def a17:Nat→Option LoopAnn:=fun c=>bif Nat.beq c 0 then some (.fix h17_L0 e17_L0 s17_L0) else none
noncomputable def g17 (x0:(L (L Int))) (x1:(L (L Int))):Option ((Bool×Unit)×Unit) :=
bif ((x0.len:Int) != (x1.len:Int)) then some ((false,()),()) else (fixO s17_L0 ((x0,(x1,((0:Int),()))),())).bind fun d3=>match d3 with | .inl y2=>some ((y2.1.1,()),()) | .inr (.inl y2)=>some ((true,()),()) | .inr (.inr e)=>nomatch e
noncomputable def c17:Ctr:={ ins:=[.v (.sl (.sl (.int .u8))),.v (.sl (.sl (.int .u8)))],out:=[.bool],F:=fun x=>g17 x.1 x.2.1 }
noncomputable def l17:List (Nat×Code):=loopsIn (Tryz.f17.body.getD .skip) 0
theorem w17_L0:LW t17 a17 l17 0 0 h17_L0 e17_L0 s17_L0:=fun x=>by kernel_rfl
theorem o17:Holds Tryz.prog 17 c17:=fh t17 a17 Tryz.func17 [(0,lg l17 0)] ⟨fun x d h=>(w17_L0 x).trans h,trivial⟩ (tc o71 tn)
noncomputable def t57:Tbl:=[(151,[],c151),(17,[],c17)]
noncomputable def g57 (x0:Ta43) (x1:Ta43):Option ((Bool×Unit)×Unit) :=
(g151 x0.1 x1.1).bind fun y1=>bif (!y1.1.1) then some ((false,()),()) else bif (x0.2.1 != x1.2.1) then some ((false,()),()) else (g17 x0.2.2.1 x1.2.2.1).bind fun y2=>bif (!y2.1.1) then some ((false,()),()) else some ((true,()),())
noncomputable def c57:Ctr:={ ins:=[.v Ty154,.v Ty154],out:=[.bool],F:=fun x=>g57 x.1 x.2.1 }
theorem o57:Holds Tryz.prog 57 c57:=f0 t57 Tryz.func57 (tc o151 (tc o17 tn))
noncomputable def t58:Tbl:=[]
noncomputable def g58 (x0:Ta112) (x1:Ta112):Option ((Bool×Unit)×Unit) :=
bif (!(x0.1 == x1.1)) then some ((false,()),()) else bif (x0.2.1 != x1.2.1) then some ((false,()),()) else bif (x0.2.2.1 != x1.2.2.1) then some ((false,()),()) else bif (x0.2.2.2.1 != x1.2.2.2.1) then some ((false,()),()) else bif (x0.2.2.2.2.1 != x1.2.2.2.2.1) then some ((false,()),()) else bif (!(x0.2.2.2.2.2.1 == x1.2.2.2.2.2.1)) then some ((false,()),()) else bif (!(x0.2.2.2.2.2.2.1 == x1.2.2.2.2.2.2.1)) then some ((false,()),()) else bif (x0.2.2.2.2.2.2.2.1 != x1.2.2.2.2.2.2.2.1) then some ((false,()),()) else some ((true,()),())
noncomputable def f58 (x0:Ta112) (x1:Ta112):Bool :=
bif (!(x0.1 == x1.1)) then false else bif (x0.2.1 != x1.2.1) then false else bif (x0.2.2.1 != x1.2.2.1) then false else bif (x0.2.2.2.1 != x1.2.2.2.1) then false else bif (x0.2.2.2.2.1 != x1.2.2.2.2.1) then false else bif (!(x0.2.2.2.2.2.1 == x1.2.2.2.2.2.1)) then false else bif (!(x0.2.2.2.2.2.2.1 == x1.2.2.2.2.2.2.1)) then false else bif (x0.2.2.2.2.2.2.2.1 != x1.2.2.2.2.2.2.2.1) then false else true
theorem n58 (x0:Ta112) (x1:Ta112):g58 x0 x1 = some ((f58 x0 x1,()),()):=by simp only [g58,f58,pull1]
noncomputable def c58:Ctr:={ ins:=[.v Ty233,.v Ty233],out:=[.bool],F:=fun x=>some ((f58 x.1 x.2.1,()),()) }
theorem o58:Holds Tryz.prog 58 c58:=f0T t58 (fun x=>g58 x.1 x.2.1) Tryz.func58 tn (fun x=>n58 x.1 x.2.1)
noncomputable def t59:Tbl:=[]
noncomputable def g59 (x0:Ta22) (x1:Ta22):Option ((Bool×Unit)×Unit) :=
bif (x0.1 != x1.1) then some ((false,()),()) else bif (x0.2.1 != x1.2.1) then some ((false,()),()) else bif (x0.2.2.1 != x1.2.2.1) then some ((false,()),()) else bif (!(x0.2.2.2.1 == x1.2.2.2.1)) then some ((false,()),()) else some ((true,()),())
noncomputable def f59 (x0:Ta22) (x1:Ta22):Bool :=
bif (x0.1 != x1.1) then false else bif (x0.2.1 != x1.2.1) then false else bif (x0.2.2.1 != x1.2.2.1) then false else bif (!(x0.2.2.2.1 == x1.2.2.2.1)) then false else true
theorem n59 (x0:Ta22) (x1:Ta22):g59 x0 x1 = some ((f59 x0 x1,()),()):=by simp only [g59,f59,pull1]
noncomputable def c59:Ctr:={ ins:=[.v Ty151,.v Ty151],out:=[.bool],F:=fun x=>some ((f59 x.1 x.2.1,()),()) }
theorem o59:Holds Tryz.prog 59 c59:=f0T t59 (fun x=>g59 x.1 x.2.1) Tryz.func59 tn (fun x=>n59 x.1 x.2.1)
noncomputable def t65:Tbl:=[]
noncomputable def g65 (x0:(Int×(Int×(Int×Unit)))) (x1:(Int×(Int×(Int×Unit)))):Option ((Bool×Unit)×Unit) :=
bif (x0.1 != x1.1) then some ((false,()),()) else bif (x0.2.1 != x1.2.1) then some ((false,()),()) else bif (x0.2.2.1 != x1.2.2.1) then some ((false,()),()) else some ((true,()),())
noncomputable def f65 (x0:(Int×(Int×(Int×Unit)))) (x1:(Int×(Int×(Int×Unit)))):Bool :=
bif (x0.1 != x1.1) then false else bif (x0.2.1 != x1.2.1) then false else bif (x0.2.2.1 != x1.2.2.1) then false else true
theorem n65 (x0:(Int×(Int×(Int×Unit)))) (x1:(Int×(Int×(Int×Unit)))):g65 x0 x1 = some ((f65 x0 x1,()),()):=by simp only [g65,f65,pull1]
noncomputable def c65:Ctr:={ ins:=[.v Ty129,.v Ty129],out:=[.bool],F:=fun x=>some ((f65 x.1 x.2.1,()),()) }
theorem o65:Holds Tryz.prog 65 c65:=f0T t65 (fun x=>g65 x.1 x.2.1) Tryz.func65 tn (fun x=>n65 x.1 x.2.1)
noncomputable def t306:Tbl:=[]
noncomputable def g306 (x0:(Int×(Bool×Unit))) (x1:(Int×(Bool×Unit))):Option ((Bool×Unit)×Unit) :=
bif (x0.1 != x1.1) then some ((false,()),()) else bif (!(x0.2.1 == x1.2.1)) then some ((false,()),()) else some ((true,()),())
noncomputable def f306 (x0:(Int×(Bool×Unit))) (x1:(Int×(Bool×Unit))):Bool :=
bif (x0.1 != x1.1) then false else bif (!(x0.2.1 == x1.2.1)) then false else true
theorem n306 (x0:(Int×(Bool×Unit))) (x1:(Int×(Bool×Unit))):g306 x0 x1 = some ((f306 x0 x1,()),()):=by simp only [g306,f306,pull1]
noncomputable def c306:Ctr:={ ins:=[.v Ty57,.v Ty57],out:=[.bool],F:=fun x=>some ((f306 x.1 x.2.1,()),()) }
theorem o306:Holds Tryz.prog 306 c306:=f0T t306 (fun x=>g306 x.1 x.2.1) Tryz.func306 tn (fun x=>n306 x.1 x.2.1)
noncomputable def t242:Tbl:=[(306,[],c306)]
abbrev h242_L0:Shape:={ slots:=[(0,.v Ty76),(1,.v Ty76),(5,.v (.int .i64))],boxes:=[] }
abbrev e242_L0:List (XT×Shape):=[(.ret,{ slots:=[(4,.v .bool)],boxes:=[] }),(.exit 0,{ slots:=[],boxes:=[] })]
noncomputable def q242_L0 (t0:(L (Int×(Bool×Unit)))) (t1:(L (Int×(Bool×Unit)))) (t5:Int):Option ((((L (Int×(Bool×Unit)))×Ta45)×Unit)⊕(((Bool×Unit)×Unit)⊕((Unit×Unit)⊕Empty))) :=
bif (decide (t5 < (t0.len:Int))) then bif (decide (0≤t5)&&decide (t5 < (t0.len:Int))) then bif (decide (0≤t5)&&decide (t5 < (t1.len:Int))) then bif (!(f306 (L.get t0 t5.toNat) (L.get t1 t5.toNat))) then some (.inr (.inl ((false,()),()))) else some (.inl ((t0,(t1,((wI (t5 + (1:Int))),()))),())) else none else none else some (.inr (.inr (.inl ((),()))))
noncomputable def s242_L0 (x:(((L (Int×(Bool×Unit)))×Ta45)×Unit)):=q242_L0 x.1.1 x.1.2.1 x.1.2.2.1
noncomputable def a242:Nat→Option LoopAnn:=fun c=>bif Nat.beq c 0 then some (.fix h242_L0 e242_L0 s242_L0) else none
noncomputable def g242 (x0:(L (Int×(Bool×Unit)))) (x1:(L (Int×(Bool×Unit)))):Option ((Bool×Unit)×Unit) :=
bif ((x0.len:Int) != (x1.len:Int)) then some ((false,()),()) else (fixO s242_L0 ((x0,(x1,((0:Int),()))),())).bind fun d2=>match d2 with | .inl y1=>some ((y1.1.1,()),()) | .inr (.inl y1)=>some ((true,()),()) | .inr (.inr e)=>nomatch e
noncomputable def c242:Ctr:={ ins:=[.v Ty76,.v Ty76],out:=[.bool],F:=fun x=>g242 x.1 x.2.1 }
noncomputable def l242:List (Nat×Code):=loopsIn (Tryz.f242.body.getD .skip) 0
theorem w242_L0:LW t242 a242 l242 0 0 h242_L0 e242_L0 s242_L0:=fun x=>by kernel_rfl
theorem o242:Holds Tryz.prog 242 c242:=fh t242 a242 Tryz.func242 [(0,lg l242 0)] ⟨fun x d h=>(w242_L0 x).trans h,trivial⟩ (tc o306 tn)
noncomputable def t152:Tbl:=[(242,[],c242)]
abbrev h152_L0:Shape:={ slots:=[(0,.v Ty97),(1,.v Ty97),(5,.v (.int .i64))],boxes:=[] }
abbrev e152_L0:List (XT×Shape):=[(.ret,{ slots:=[(4,.v .bool)],boxes:=[] }),(.exit 0,{ slots:=[],boxes:=[] })]
noncomputable def q152_L0 (t0:Ta6) (t1:Ta6) (t5:Int):Option (((Ta6×(Ta6×(Int×Unit)))×Unit)⊕(((Bool×Unit)×Unit)⊕((Unit×Unit)⊕Empty))) :=
bif (decide (t5 < (t0.len:Int))) then bif (decide (0≤t5)&&decide (t5 < (t0.len:Int))) then bif (decide (0≤t5)&&decide (t5 < (t1.len:Int))) then (g242 (L.get t0 t5.toNat) (L.get t1 t5.toNat)).bind fun y1=>bif (!y1.1.1) then some (.inr (.inl ((false,()),()))) else some (.inl ((t0,(t1,((wI (t5 + (1:Int))),()))),())) else none else none else some (.inr (.inr (.inl ((),()))))
noncomputable def s152_L0 (x:((Ta6×(Ta6×(Int×Unit)))×Unit)):=q152_L0 x.1.1 x.1.2.1 x.1.2.2.1
noncomputable def a152:Nat→Option LoopAnn:=fun c=>bif Nat.beq c 0 then some (.fix h152_L0 e152_L0 s152_L0) else none
noncomputable def g152 (x0:Ta6) (x1:Ta6):Option ((Bool×Unit)×Unit) :=
bif ((x0.len:Int) != (x1.len:Int)) then some ((false,()),()) else (fixO s152_L0 ((x0,(x1,((0:Int),()))),())).bind fun d3=>match d3 with | .inl y2=>some ((y2.1.1,()),()) | .inr (.inl y2)=>some ((true,()),()) | .inr (.inr e)=>nomatch e
noncomputable def c152:Ctr:={ ins:=[.v Ty97,.v Ty97],out:=[.bool],F:=fun x=>g152 x.1 x.2.1 }
noncomputable def l152:List (Nat×Code):=loopsIn (Tryz.f152.body.getD .skip) 0
theorem w152_L0:LW t152 a152 l152 0 0 h152_L0 e152_L0 s152_L0:=fun x=>by kernel_rfl
theorem o152:Holds Tryz.prog 152 c152:=fh t152 a152 Tryz.func152 [(0,lg l152 0)] ⟨fun x d h=>(w152_L0 x).trans h,trivial⟩ (tc o242 tn)
noncomputable def t60:Tbl:=[(65,[],c65),(152,[],c152)]
noncomputable def g60 (x0:Ta118) (x1:Ta118):Option ((Bool×Unit)×Unit) :=
bif (!(f65 x0.1 x1.1)) then some ((false,()),()) else (g152 x0.2.1 x1.2.1).bind fun y1=>bif (!y1.1.1) then some ((false,()),()) else some ((true,()),())
noncomputable def c60:Ctr:={ ins:=[.v Ty225,.v Ty225],out:=[.bool],F:=fun x=>g60 x.1 x.2.1 }
theorem o60:Holds Tryz.prog 60 c60:=f0 t60 Tryz.func60 (tc o65 (tc o152 tn))
noncomputable def t68:Tbl:=[]
abbrev h68_L0:Shape:={ slots:=[(0,.v (.sl (.int .i64))),(1,.v (.sl (.int .i64))),(5,.v (.int .i64))],boxes:=[] }
abbrev e68_L0:List (XT×Shape):=[(.ret,{ slots:=[(4,.v .bool)],boxes:=[] }),(.exit 0,{ slots:=[],boxes:=[] })]
noncomputable def q68_L0 (t0:(L Int)) (t1:(L Int)) (t5:Int):Option (Ta54⊕(((Bool×Unit)×Unit)⊕((Unit×Unit)⊕Empty))) :=
bif (decide (t5 < (t0.len:Int))) then bif (decide (0≤t5)&&decide (t5 < (t0.len:Int))) then bif (decide (0≤t5)&&decide (t5 < (t1.len:Int))) then bif ((L.get t0 t5.toNat) != (L.get t1 t5.toNat)) then some (.inr (.inl ((false,()),()))) else some (.inl ((t0,(t1,((wI (t5 + (1:Int))),()))),())) else none else none else some (.inr (.inr (.inl ((),()))))
noncomputable def s68_L0 (x:Ta54):=q68_L0 x.1.1 x.1.2.1 x.1.2.2.1
noncomputable def a68:Nat→Option LoopAnn:=fun c=>bif Nat.beq c 0 then some (.fix h68_L0 e68_L0 s68_L0) else none
noncomputable def g68 (x0:(L Int)) (x1:(L Int)):Option ((Bool×Unit)×Unit) :=
bif ((x0.len:Int) != (x1.len:Int)) then some ((false,()),()) else (fixO s68_L0 ((x0,(x1,((0:Int),()))),())).bind fun d2=>match d2 with | .inl y1=>some ((y1.1.1,()),()) | .inr (.inl y1)=>some ((true,()),()) | .inr (.inr e)=>nomatch e
noncomputable def c68:Ctr:={ ins:=[.v (.sl (.int .i64)),.v (.sl (.int .i64))],out:=[.bool],F:=fun x=>g68 x.1 x.2.1 }
noncomputable def l68:List (Nat×Code):=loopsIn (Tryz.f68.body.getD .skip) 0
theorem w68_L0:LW t68 a68 l68 0 0 h68_L0 e68_L0 s68_L0:=fun x=>by kernel_rfl
theorem o68:Holds Tryz.prog 68 c68:=fh t68 a68 Tryz.func68 [(0,lg l68 0)] ⟨fun x d h=>(w68_L0 x).trans h,trivial⟩ tn
noncomputable def t61:Tbl:=[(68,[],c68)]
noncomputable def g61 (x0:(Int×((L Int)×Unit))) (x1:(Int×((L Int)×Unit))):Option ((Bool×Unit)×Unit) :=
bif (x0.1 != x1.1) then some ((false,()),()) else (g68 x0.2.1 x1.2.1).bind fun y1=>bif (!y1.1.1) then some ((false,()),()) else some ((true,()),())
noncomputable def c61:Ctr:={ ins:=[.v Ty99,.v Ty99],out:=[.bool],F:=fun x=>g61 x.1 x.2.1 }
theorem o61:Holds Tryz.prog 61 c61:=f0 t61 Tryz.func61 (tc o68 tn)
noncomputable def t153:Tbl:=[(151,[],c151)]
noncomputable def g153 (x0:(Int×((L Int)×Unit))) (x1:(Int×((L Int)×Unit))):Option ((Bool×Unit)×Unit) :=
bif (x0.1 != x1.1) then some ((false,()),()) else (g151 x0.2.1 x1.2.1).bind fun y1=>bif (!y1.1.1) then some ((false,()),()) else some ((true,()),())
noncomputable def c153:Ctr:={ ins:=[.v Ty96,.v Ty96],out:=[.bool],F:=fun x=>g153 x.1 x.2.1 }
theorem o153:Holds Tryz.prog 153 c153:=f0 t153 Tryz.func153 (tc o151 tn)
noncomputable def t62:Tbl:=[(153,[],c153)]
abbrev h62_L0:Shape:={ slots:=[(0,.v Ty119),(1,.v Ty119),(5,.v (.int .i64))],boxes:=[] }
abbrev e62_L0:List (XT×Shape):=[(.ret,{ slots:=[(4,.v .bool)],boxes:=[] }),(.exit 0,{ slots:=[],boxes:=[] })]
noncomputable def q62_L0 (t0:Ta1) (t1:Ta1) (t5:Int):Option (((Ta1×(Ta1×(Int×Unit)))×Unit)⊕(((Bool×Unit)×Unit)⊕((Unit×Unit)⊕Empty))) :=
bif (decide (t5 < (t0.len:Int))) then bif (decide (0≤t5)&&decide (t5 < (t0.len:Int))) then bif (decide (0≤t5)&&decide (t5 < (t1.len:Int))) then (g153 (L.get t0 t5.toNat) (L.get t1 t5.toNat)).bind fun y1=>bif (!y1.1.1) then some (.inr (.inl ((false,()),()))) else some (.inl ((t0,(t1,((wI (t5 + (1:Int))),()))),())) else none else none else some (.inr (.inr (.inl ((),()))))
noncomputable def s62_L0 (x:((Ta1×(Ta1×(Int×Unit)))×Unit)):=q62_L0 x.1.1 x.1.2.1 x.1.2.2.1
noncomputable def a62:Nat→Option LoopAnn:=fun c=>bif Nat.beq c 0 then some (.fix h62_L0 e62_L0 s62_L0) else none
noncomputable def g62 (x0:Ta1) (x1:Ta1):Option ((Bool×Unit)×Unit) :=
bif ((x0.len:Int) != (x1.len:Int)) then some ((false,()),()) else (fixO s62_L0 ((x0,(x1,((0:Int),()))),())).bind fun d3=>match d3 with | .inl y2=>some ((y2.1.1,()),()) | .inr (.inl y2)=>some ((true,()),()) | .inr (.inr e)=>nomatch e
noncomputable def c62:Ctr:={ ins:=[.v Ty119,.v Ty119],out:=[.bool],F:=fun x=>g62 x.1 x.2.1 }
noncomputable def l62:List (Nat×Code):=loopsIn (Tryz.f62.body.getD .skip) 0
theorem w62_L0:LW t62 a62 l62 0 0 h62_L0 e62_L0 s62_L0:=fun x=>by kernel_rfl
theorem o62:Holds Tryz.prog 62 c62:=fh t62 a62 Tryz.func62 [(0,lg l62 0)] ⟨fun x d h=>(w62_L0 x).trans h,trivial⟩ (tc o153 tn)
noncomputable def t154:Tbl:=[(151,[],c151)]
noncomputable def g154 (x0:((L Int)×Unit)) (x1:((L Int)×Unit)):Option ((Bool×Unit)×Unit) :=
(g151 x0.1 x1.1).bind fun y1=>bif (!y1.1.1) then some ((false,()),()) else some ((true,()),())
noncomputable def c154:Ctr:={ ins:=[.v Ty30,.v Ty30],out:=[.bool],F:=fun x=>g154 x.1 x.2.1 }
theorem o154:Holds Tryz.prog 154 c154:=f0 t154 Tryz.func154 (tc o151 tn)
noncomputable def t63:Tbl:=[(154,[],c154)]
abbrev h63_L0:Shape:={ slots:=[(0,.v Ty51),(1,.v Ty51),(5,.v (.int .i64))],boxes:=[] }
abbrev e63_L0:List (XT×Shape):=[(.ret,{ slots:=[(4,.v .bool)],boxes:=[] }),(.exit 0,{ slots:=[],boxes:=[] })]
noncomputable def q63_L0 (t0:(L ((L Int)×Unit))) (t1:(L ((L Int)×Unit))) (t5:Int):Option ((((L ((L Int)×Unit))×((L ((L Int)×Unit))×(Int×Unit)))×Unit)⊕(((Bool×Unit)×Unit)⊕((Unit×Unit)⊕Empty))) :=
bif (decide (t5 < (t0.len:Int))) then bif (decide (0≤t5)&&decide (t5 < (t0.len:Int))) then bif (decide (0≤t5)&&decide (t5 < (t1.len:Int))) then (g154 (L.get t0 t5.toNat) (L.get t1 t5.toNat)).bind fun y1=>bif (!y1.1.1) then some (.inr (.inl ((false,()),()))) else some (.inl ((t0,(t1,((wI (t5 + (1:Int))),()))),())) else none else none else some (.inr (.inr (.inl ((),()))))
noncomputable def s63_L0 (x:(((L ((L Int)×Unit))×((L ((L Int)×Unit))×(Int×Unit)))×Unit)):=q63_L0 x.1.1 x.1.2.1 x.1.2.2.1
noncomputable def a63:Nat→Option LoopAnn:=fun c=>bif Nat.beq c 0 then some (.fix h63_L0 e63_L0 s63_L0) else none
noncomputable def g63 (x0:(L ((L Int)×Unit))) (x1:(L ((L Int)×Unit))):Option ((Bool×Unit)×Unit) :=
bif ((x0.len:Int) != (x1.len:Int)) then some ((false,()),()) else (fixO s63_L0 ((x0,(x1,((0:Int),()))),())).bind fun d3=>match d3 with | .inl y2=>some ((y2.1.1,()),()) | .inr (.inl y2)=>some ((true,()),()) | .inr (.inr e)=>nomatch e
noncomputable def c63:Ctr:={ ins:=[.v Ty51,.v Ty51],out:=[.bool],F:=fun x=>g63 x.1 x.2.1 }
noncomputable def l63:List (Nat×Code):=loopsIn (Tryz.f63.body.getD .skip) 0
theorem w63_L0:LW t63 a63 l63 0 0 h63_L0 e63_L0 s63_L0:=fun x=>by kernel_rfl
theorem o63:Holds Tryz.prog 63 c63:=fh t63 a63 Tryz.func63 [(0,lg l63 0)] ⟨fun x d h=>(w63_L0 x).trans h,trivial⟩ (tc o154 tn)
noncomputable def t155:Tbl:=[(151,[],c151)]
noncomputable def g155 (x0:Ta2) (x1:Ta2):Option ((Bool×Unit)×Unit) :=
(g151 x0.1 x1.1).bind fun y1=>bif (!y1.1.1) then some ((false,()),()) else (g151 x0.2.1 x1.2.1).bind fun y2=>bif (!y2.1.1) then some ((false,()),()) else some ((true,()),())
noncomputable def c155:Ctr:={ ins:=[.v Ty117,.v Ty117],out:=[.bool],F:=fun x=>g155 x.1 x.2.1 }
theorem o155:Holds Tryz.prog 155 c155:=f0 t155 Tryz.func155 (tc o151 tn)
noncomputable def t64:Tbl:=[(155,[],c155)]
abbrev h64_L0:Shape:={ slots:=[(0,.v Ty125),(1,.v Ty125),(5,.v (.int .i64))],boxes:=[] }
abbrev e64_L0:List (XT×Shape):=[(.ret,{ slots:=[(4,.v .bool)],boxes:=[] }),(.exit 0,{ slots:=[],boxes:=[] })]
noncomputable def q64_L0 (t0:Ta18) (t1:Ta18) (t5:Int):Option (((Ta18×(Ta18×(Int×Unit)))×Unit)⊕(((Bool×Unit)×Unit)⊕((Unit×Unit)⊕Empty))) :=
bif (decide (t5 < (t0.len:Int))) then bif (decide (0≤t5)&&decide (t5 < (t0.len:Int))) then bif (decide (0≤t5)&&decide (t5 < (t1.len:Int))) then (g155 (L.get t0 t5.toNat) (L.get t1 t5.toNat)).bind fun y1=>bif (!y1.1.1) then some (.inr (.inl ((false,()),()))) else some (.inl ((t0,(t1,((wI (t5 + (1:Int))),()))),())) else none else none else some (.inr (.inr (.inl ((),()))))
noncomputable def s64_L0 (x:((Ta18×(Ta18×(Int×Unit)))×Unit)):=q64_L0 x.1.1 x.1.2.1 x.1.2.2.1
noncomputable def a64:Nat→Option LoopAnn:=fun c=>bif Nat.beq c 0 then some (.fix h64_L0 e64_L0 s64_L0) else none
noncomputable def g64 (x0:Ta18) (x1:Ta18):Option ((Bool×Unit)×Unit) :=
bif ((x0.len:Int) != (x1.len:Int)) then some ((false,()),()) else (fixO s64_L0 ((x0,(x1,((0:Int),()))),())).bind fun d3=>match d3 with | .inl y2=>some ((y2.1.1,()),()) | .inr (.inl y2)=>some ((true,()),()) | .inr (.inr e)=>nomatch e
noncomputable def c64:Ctr:={ ins:=[.v Ty125,.v Ty125],out:=[.bool],F:=fun x=>g64 x.1 x.2.1 }
noncomputable def l64:List (Nat×Code):=loopsIn (Tryz.f64.body.getD .skip) 0
theorem w64_L0:LW t64 a64 l64 0 0 h64_L0 e64_L0 s64_L0:=fun x=>by kernel_rfl
theorem o64:Holds Tryz.prog 64 c64:=fh t64 a64 Tryz.func64 [(0,lg l64 0)] ⟨fun x d h=>(w64_L0 x).trans h,trivial⟩ (tc o155 tn)
noncomputable def t15:Tbl:=[(57,[],c57),(58,[],c58),(59,[],c59),(60,[],c60),(61,[],c61),(17,[],c17),(62,[],c62),(63,[],c63),(64,[],c64)]
noncomputable def g15 (x0:Ta348) (x1:Ta348):Option ((Bool×Unit)×Unit) :=
(g57 x0.1 x1.1).bind fun y1=>bif (!y1.1.1) then some ((false,()),()) else bif (!(f58 x0.2.1 x1.2.1)) then some ((false,()),()) else bif (!(f59 x0.2.2.1 x1.2.2.1)) then some ((false,()),()) else (g60 x0.2.2.2.1 x1.2.2.2.1).bind fun y2=>bif (!y2.1.1) then some ((false,()),()) else (g61 x0.2.2.2.2.1 x1.2.2.2.2.1).bind fun y3=>bif (!y3.1.1) then some ((false,()),()) else bif (x0.2.2.2.2.2.1 != x1.2.2.2.2.2.1) then some ((false,()),()) else bif (!(x0.2.2.2.2.2.2.1 == x1.2.2.2.2.2.2.1)) then some ((false,()),()) else (g17 x0.2.2.2.2.2.2.2.1 x1.2.2.2.2.2.2.2.1).bind fun y4=>bif (!y4.1.1) then some ((false,()),()) else (g62 x0.2.2.2.2.2.2.2.2.1 x1.2.2.2.2.2.2.2.2.1).bind fun y5=>bif (!y5.1.1) then some ((false,()),()) else (g63 x0.2.2.2.2.2.2.2.2.2.1 x1.2.2.2.2.2.2.2.2.2.1).bind fun y6=>bif (!y6.1.1) then some ((false,()),()) else (g64 x0.2.2.2.2.2.2.2.2.2.2.1 x1.2.2.2.2.2.2.2.2.2.2.1).bind fun y7=>bif (!y7.1.1) then some ((false,()),()) else some ((true,()),())
noncomputable def c15:Ctr:={ ins:=[.v Ty371,.v Ty371],out:=[.bool],F:=fun x=>g15 x.1 x.2.1 }
theorem o15:Holds Tryz.prog 15 c15:=f0 t15 Tryz.func15 (tc o57 (tc o58 (tc o59 (tc o60 (tc o61 (tc o17 (tc o62 (tc o63 (tc o64 tn)))))))))
noncomputable def t66:Tbl:=[]
noncomputable def g66 (x0:Ta81) (x1:Ta81):Option ((Bool×Unit)×Unit) :=
bif (x0.1 != x1.1) then some ((false,()),()) else bif (x0.2.1 != x1.2.1) then some ((false,()),()) else bif (x0.2.2.1 != x1.2.2.1) then some ((false,()),()) else bif (x0.2.2.2.1 != x1.2.2.2.1) then some ((false,()),()) else bif (x0.2.2.2.2.1 != x1.2.2.2.2.1) then some ((false,()),()) else bif (x0.2.2.2.2.2.1 != x1.2.2.2.2.2.1) then some ((false,()),()) else bif (x0.2.2.2.2.2.2.1 != x1.2.2.2.2.2.2.1) then some ((false,()),()) else some ((true,()),())
noncomputable def f66 (x0:Ta81) (x1:Ta81):Bool :=
bif (x0.1 != x1.1) then false else bif (x0.2.1 != x1.2.1) then false else bif (x0.2.2.1 != x1.2.2.1) then false else bif (x0.2.2.2.1 != x1.2.2.2.1) then false else bif (x0.2.2.2.2.1 != x1.2.2.2.2.1) then false else bif (x0.2.2.2.2.2.1 != x1.2.2.2.2.2.1) then false else bif (x0.2.2.2.2.2.2.1 != x1.2.2.2.2.2.2.1) then false else true
theorem n66 (x0:Ta81) (x1:Ta81):g66 x0 x1 = some ((f66 x0 x1,()),()):=by simp only [g66,f66,pull1]
noncomputable def c66:Ctr:={ ins:=[.v Ty229,.v Ty229],out:=[.bool],F:=fun x=>some ((f66 x.1 x.2.1,()),()) }
theorem o66:Holds Tryz.prog 66 c66:=f0T t66 (fun x=>g66 x.1 x.2.1) Tryz.func66 tn (fun x=>n66 x.1 x.2.1)
noncomputable def t243:Tbl:=[]
noncomputable def g243 (x0:(Int×(Int×Unit))) (x1:(Int×(Int×Unit))):Option ((Bool×Unit)×Unit) :=
bif (x0.1 != x1.1) then some ((false,()),()) else bif (x0.2.1 != x1.2.1) then some ((false,()),()) else some ((true,()),())
noncomputable def f243 (x0:(Int×(Int×Unit))) (x1:(Int×(Int×Unit))):Bool :=
bif (x0.1 != x1.1) then false else bif (x0.2.1 != x1.2.1) then false else true
theorem n243 (x0:(Int×(Int×Unit))) (x1:(Int×(Int×Unit))):g243 x0 x1 = some ((f243 x0 x1,()),()):=by simp only [g243,f243,pull1]
noncomputable def c243:Ctr:={ ins:=[.v Ty77,.v Ty77],out:=[.bool],F:=fun x=>some ((f243 x.1 x.2.1,()),()) }
theorem o243:Holds Tryz.prog 243 c243:=f0T t243 (fun x=>g243 x.1 x.2.1) Tryz.func243 tn (fun x=>n243 x.1 x.2.1)
noncomputable def t307:Tbl:=[]
noncomputable def g307 (x0:(Int×(Int×(Int×Unit)))) (x1:(Int×(Int×(Int×Unit)))):Option ((Bool×Unit)×Unit) :=
bif (x0.1 != x1.1) then some ((false,()),()) else bif (x0.2.1 != x1.2.1) then some ((false,()),()) else bif (x0.2.2.1 != x1.2.2.1) then some ((false,()),()) else some ((true,()),())
noncomputable def f307 (x0:(Int×(Int×(Int×Unit)))) (x1:(Int×(Int×(Int×Unit)))):Bool :=
bif (x0.1 != x1.1) then false else bif (x0.2.1 != x1.2.1) then false else bif (x0.2.2.1 != x1.2.2.1) then false else true
theorem n307 (x0:(Int×(Int×(Int×Unit)))) (x1:(Int×(Int×(Int×Unit)))):g307 x0 x1 = some ((f307 x0 x1,()),()):=by simp only [g307,f307,pull1]
noncomputable def c307:Ctr:={ ins:=[.v Ty129,.v Ty129],out:=[.bool],F:=fun x=>some ((f307 x.1 x.2.1,()),()) }
theorem o307:Holds Tryz.prog 307 c307:=f0T t307 (fun x=>g307 x.1 x.2.1) Tryz.func307 tn (fun x=>n307 x.1 x.2.1)
noncomputable def t244:Tbl:=[(307,[],c307)]
abbrev h244_L0:Shape:={ slots:=[(0,.v Ty138),(1,.v Ty138),(5,.v (.int .i64))],boxes:=[] }
abbrev e244_L0:List (XT×Shape):=[(.ret,{ slots:=[(4,.v .bool)],boxes:=[] }),(.exit 0,{ slots:=[],boxes:=[] })]
noncomputable def q244_L0 (t0:Ta12) (t1:Ta12) (t5:Int):Option (Ta142⊕(((Bool×Unit)×Unit)⊕((Unit×Unit)⊕Empty))) :=
bif (decide (t5 < (t0.len:Int))) then bif (decide (0≤t5)&&decide (t5 < (t0.len:Int))) then bif (decide (0≤t5)&&decide (t5 < (t1.len:Int))) then bif (!(f307 (L.get t0 t5.toNat) (L.get t1 t5.toNat))) then some (.inr (.inl ((false,()),()))) else some (.inl ((t0,(t1,((wI (t5 + (1:Int))),()))),())) else none else none else some (.inr (.inr (.inl ((),()))))
noncomputable def s244_L0 (x:Ta142):=q244_L0 x.1.1 x.1.2.1 x.1.2.2.1
noncomputable def a244:Nat→Option LoopAnn:=fun c=>bif Nat.beq c 0 then some (.fix h244_L0 e244_L0 s244_L0) else none
noncomputable def g244 (x0:Ta12) (x1:Ta12):Option ((Bool×Unit)×Unit) :=
bif ((x0.len:Int) != (x1.len:Int)) then some ((false,()),()) else (fixO s244_L0 ((x0,(x1,((0:Int),()))),())).bind fun d2=>match d2 with | .inl y1=>some ((y1.1.1,()),()) | .inr (.inl y1)=>some ((true,()),()) | .inr (.inr e)=>nomatch e
noncomputable def c244:Ctr:={ ins:=[.v Ty138,.v Ty138],out:=[.bool],F:=fun x=>g244 x.1 x.2.1 }
noncomputable def l244:List (Nat×Code):=loopsIn (Tryz.f244.body.getD .skip) 0
theorem w244_L0:LW t244 a244 l244 0 0 h244_L0 e244_L0 s244_L0:=fun x=>by kernel_rfl
theorem o244:Holds Tryz.prog 244 c244:=fh t244 a244 Tryz.func244 [(0,lg l244 0)] ⟨fun x d h=>(w244_L0 x).trans h,trivial⟩ (tc o307 tn)
noncomputable def t156:Tbl:=[(243,[],c243),(244,[],c244)]
noncomputable def g156 (x0:Ta136) (x1:Ta136):Option ((Bool×Unit)×Unit) :=
bif (!strEq x0.1 x1.1) then some ((false,()),()) else bif (x0.2.1 != x1.2.1) then some ((false,()),()) else bif (!(f243 x0.2.2.1 x1.2.2.1)) then some ((false,()),()) else (g244 x0.2.2.2.1 x1.2.2.2.1).bind fun y1=>bif (!y1.1.1) then some ((false,()),()) else some ((true,()),())
noncomputable def c156:Ctr:={ ins:=[.v Ty259,.v Ty259],out:=[.bool],F:=fun x=>g156 x.1 x.2.1 }
theorem o156:Holds Tryz.prog 156 c156:=f0 t156 Tryz.func156 (tc o243 (tc o244 tn))
noncomputable def t67:Tbl:=[(156,[],c156)]
abbrev h67_L0:Shape:={ slots:=[(0,.v Ty267),(1,.v Ty267),(5,.v (.int .i64))],boxes:=[] }
abbrev e67_L0:List (XT×Shape):=[(.ret,{ slots:=[(4,.v .bool)],boxes:=[] }),(.exit 0,{ slots:=[],boxes:=[] })]
noncomputable def q67_L0 (t0:Ta141) (t1:Ta141) (t5:Int):Option (((Ta141×(Ta141×(Int×Unit)))×Unit)⊕(((Bool×Unit)×Unit)⊕((Unit×Unit)⊕Empty))) :=
bif (decide (t5 < (t0.len:Int))) then bif (decide (0≤t5)&&decide (t5 < (t0.len:Int))) then bif (decide (0≤t5)&&decide (t5 < (t1.len:Int))) then (g156 (L.get t0 t5.toNat) (L.get t1 t5.toNat)).bind fun y1=>bif (!y1.1.1) then some (.inr (.inl ((false,()),()))) else some (.inl ((t0,(t1,((wI (t5 + (1:Int))),()))),())) else none else none else some (.inr (.inr (.inl ((),()))))
noncomputable def s67_L0 (x:((Ta141×(Ta141×(Int×Unit)))×Unit)):=q67_L0 x.1.1 x.1.2.1 x.1.2.2.1
noncomputable def a67:Nat→Option LoopAnn:=fun c=>bif Nat.beq c 0 then some (.fix h67_L0 e67_L0 s67_L0) else none
noncomputable def g67 (x0:Ta141) (x1:Ta141):Option ((Bool×Unit)×Unit) :=
bif ((x0.len:Int) != (x1.len:Int)) then some ((false,()),()) else (fixO s67_L0 ((x0,(x1,((0:Int),()))),())).bind fun d3=>match d3 with | .inl y2=>some ((y2.1.1,()),()) | .inr (.inl y2)=>some ((true,()),()) | .inr (.inr e)=>nomatch e
noncomputable def c67:Ctr:={ ins:=[.v Ty267,.v Ty267],out:=[.bool],F:=fun x=>g67 x.1 x.2.1 }
noncomputable def l67:List (Nat×Code):=loopsIn (Tryz.f67.body.getD .skip) 0
theorem w67_L0:LW t67 a67 l67 0 0 h67_L0 e67_L0 s67_L0:=fun x=>by kernel_rfl
theorem o67:Holds Tryz.prog 67 c67:=fh t67 a67 Tryz.func67 [(0,lg l67 0)] ⟨fun x d h=>(w67_L0 x).trans h,trivial⟩ (tc o156 tn)
noncomputable def t157:Tbl:=[]
noncomputable def g157 (x0:Ta17) (x1:Ta17):Option ((Bool×Unit)×Unit) :=
bif (x0.1 != x1.1) then some ((false,()),()) else bif (x0.2.1 != x1.2.1) then some ((false,()),()) else bif (x0.2.2.1 != x1.2.2.1) then some ((false,()),()) else bif (x0.2.2.2.1 != x1.2.2.2.1) then some ((false,()),()) else some ((true,()),())
noncomputable def f157 (x0:Ta17) (x1:Ta17):Bool :=
bif (x0.1 != x1.1) then false else bif (x0.2.1 != x1.2.1) then false else bif (x0.2.2.1 != x1.2.2.1) then false else bif (x0.2.2.2.1 != x1.2.2.2.1) then false else true
theorem n157 (x0:Ta17) (x1:Ta17):g157 x0 x1 = some ((f157 x0 x1,()),()):=by simp only [g157,f157,pull1]
noncomputable def c157:Ctr:={ ins:=[.v Ty164,.v Ty164],out:=[.bool],F:=fun x=>some ((f157 x.1 x.2.1,()),()) }
theorem o157:Holds Tryz.prog 157 c157:=f0T t157 (fun x=>g157 x.1 x.2.1) Tryz.func157 tn (fun x=>n157 x.1 x.2.1)
noncomputable def t69:Tbl:=[(157,[],c157)]
abbrev h69_L0:Shape:={ slots:=[(0,.v Ty169),(1,.v Ty169),(5,.v (.int .i64))],boxes:=[] }
abbrev e69_L0:List (XT×Shape):=[(.ret,{ slots:=[(4,.v .bool)],boxes:=[] }),(.exit 0,{ slots:=[],boxes:=[] })]
noncomputable def q69_L0 (t0:Ta36) (t1:Ta36) (t5:Int):Option (((Ta36×(Ta36×(Int×Unit)))×Unit)⊕(((Bool×Unit)×Unit)⊕((Unit×Unit)⊕Empty))) :=
bif (decide (t5 < (t0.len:Int))) then bif (decide (0≤t5)&&decide (t5 < (t0.len:Int))) then bif (decide (0≤t5)&&decide (t5 < (t1.len:Int))) then bif (!(f157 (L.get t0 t5.toNat) (L.get t1 t5.toNat))) then some (.inr (.inl ((false,()),()))) else some (.inl ((t0,(t1,((wI (t5 + (1:Int))),()))),())) else none else none else some (.inr (.inr (.inl ((),()))))
noncomputable def s69_L0 (x:((Ta36×(Ta36×(Int×Unit)))×Unit)):=q69_L0 x.1.1 x.1.2.1 x.1.2.2.1
noncomputable def a69:Nat→Option LoopAnn:=fun c=>bif Nat.beq c 0 then some (.fix h69_L0 e69_L0 s69_L0) else none
noncomputable def g69 (x0:Ta36) (x1:Ta36):Option ((Bool×Unit)×Unit) :=
bif ((x0.len:Int) != (x1.len:Int)) then some ((false,()),()) else (fixO s69_L0 ((x0,(x1,((0:Int),()))),())).bind fun d2=>match d2 with | .inl y1=>some ((y1.1.1,()),()) | .inr (.inl y1)=>some ((true,()),()) | .inr (.inr e)=>nomatch e
noncomputable def c69:Ctr:={ ins:=[.v Ty169,.v Ty169],out:=[.bool],F:=fun x=>g69 x.1 x.2.1 }
noncomputable def l69:List (Nat×Code):=loopsIn (Tryz.f69.body.getD .skip) 0
theorem w69_L0:LW t69 a69 l69 0 0 h69_L0 e69_L0 s69_L0:=fun x=>by kernel_rfl
theorem o69:Holds Tryz.prog 69 c69:=fh t69 a69 Tryz.func69 [(0,lg l69 0)] ⟨fun x d h=>(w69_L0 x).trans h,trivial⟩ (tc o157 tn)
noncomputable def t158:Tbl:=[]
noncomputable def g158 (x0:(Int×(Int×(Int×Unit)))) (x1:(Int×(Int×(Int×Unit)))):Option ((Bool×Unit)×Unit) :=
bif (x0.1 != x1.1) then some ((false,()),()) else bif (x0.2.1 != x1.2.1) then some ((false,()),()) else bif (x0.2.2.1 != x1.2.2.1) then some ((false,()),()) else some ((true,()),())
noncomputable def f158 (x0:(Int×(Int×(Int×Unit)))) (x1:(Int×(Int×(Int×Unit)))):Bool :=
bif (x0.1 != x1.1) then false else bif (x0.2.1 != x1.2.1) then false else bif (x0.2.2.1 != x1.2.2.1) then false else true
theorem n158 (x0:(Int×(Int×(Int×Unit)))) (x1:(Int×(Int×(Int×Unit)))):g158 x0 x1 = some ((f158 x0 x1,()),()):=by simp only [g158,f158,pull1]
noncomputable def c158:Ctr:={ ins:=[.v Ty129,.v Ty129],out:=[.bool],F:=fun x=>some ((f158 x.1 x.2.1,()),()) }
theorem o158:Holds Tryz.prog 158 c158:=f0T t158 (fun x=>g158 x.1 x.2.1) Tryz.func158 tn (fun x=>n158 x.1 x.2.1)
noncomputable def t70:Tbl:=[(158,[],c158)]
abbrev h70_L0:Shape:={ slots:=[(0,.v Ty138),(1,.v Ty138),(5,.v (.int .i64))],boxes:=[] }
abbrev e70_L0:List (XT×Shape):=[(.ret,{ slots:=[(4,.v .bool)],boxes:=[] }),(.exit 0,{ slots:=[],boxes:=[] })]
noncomputable def q70_L0 (t0:Ta12) (t1:Ta12) (t5:Int):Option (Ta142⊕(((Bool×Unit)×Unit)⊕((Unit×Unit)⊕Empty))) :=
bif (decide (t5 < (t0.len:Int))) then bif (decide (0≤t5)&&decide (t5 < (t0.len:Int))) then bif (decide (0≤t5)&&decide (t5 < (t1.len:Int))) then bif (!(f158 (L.get t0 t5.toNat) (L.get t1 t5.toNat))) then some (.inr (.inl ((false,()),()))) else some (.inl ((t0,(t1,((wI (t5 + (1:Int))),()))),())) else none else none else some (.inr (.inr (.inl ((),()))))
noncomputable def s70_L0 (x:Ta142):=q70_L0 x.1.1 x.1.2.1 x.1.2.2.1
noncomputable def a70:Nat→Option LoopAnn:=fun c=>bif Nat.beq c 0 then some (.fix h70_L0 e70_L0 s70_L0) else none
noncomputable def g70 (x0:Ta12) (x1:Ta12):Option ((Bool×Unit)×Unit) :=
bif ((x0.len:Int) != (x1.len:Int)) then some ((false,()),()) else (fixO s70_L0 ((x0,(x1,((0:Int),()))),())).bind fun d2=>match d2 with | .inl y1=>some ((y1.1.1,()),()) | .inr (.inl y1)=>some ((true,()),()) | .inr (.inr e)=>nomatch e
noncomputable def c70:Ctr:={ ins:=[.v Ty138,.v Ty138],out:=[.bool],F:=fun x=>g70 x.1 x.2.1 }
noncomputable def l70:List (Nat×Code):=loopsIn (Tryz.f70.body.getD .skip) 0
theorem w70_L0:LW t70 a70 l70 0 0 h70_L0 e70_L0 s70_L0:=fun x=>by kernel_rfl
theorem o70:Holds Tryz.prog 70 c70:=fh t70 a70 Tryz.func70 [(0,lg l70 0)] ⟨fun x d h=>(w70_L0 x).trans h,trivial⟩ (tc o158 tn)
noncomputable def t16:Tbl:=[(65,[],c65),(66,[],c66),(67,[],c67),(68,[],c68),(69,[],c69),(70,[],c70)]
noncomputable def g16 (x0:Ta330) (x1:Ta330):Option ((Bool×Unit)×Unit) :=
bif (x0.1 != x1.1) then some ((false,()),()) else bif (!(f65 x0.2.1 x1.2.1)) then some ((false,()),()) else bif (x0.2.2.1 != x1.2.2.1) then some ((false,()),()) else bif (!(f66 x0.2.2.2.1 x1.2.2.2.1)) then some ((false,()),()) else bif (x0.2.2.2.2.1 != x1.2.2.2.2.1) then some ((false,()),()) else bif (x0.2.2.2.2.2.1 != x1.2.2.2.2.2.1) then some ((false,()),()) else bif (x0.2.2.2.2.2.2.1 != x1.2.2.2.2.2.2.1) then some ((false,()),()) else (g67 x0.2.2.2.2.2.2.2.1 x1.2.2.2.2.2.2.2.1).bind fun y1=>bif (!y1.1.1) then some ((false,()),()) else (g68 x0.2.2.2.2.2.2.2.2.1 x1.2.2.2.2.2.2.2.2.1).bind fun y2=>bif (!y2.1.1) then some ((false,()),()) else (g69 x0.2.2.2.2.2.2.2.2.2.1 x1.2.2.2.2.2.2.2.2.2.1).bind fun y3=>bif (!y3.1.1) then some ((false,()),()) else (g70 x0.2.2.2.2.2.2.2.2.2.2.1 x1.2.2.2.2.2.2.2.2.2.2.1).bind fun y4=>bif (!y4.1.1) then some ((false,()),()) else some ((true,()),())
noncomputable def c16:Ctr:={ ins:=[.v Ty370,.v Ty370],out:=[.bool],F:=fun x=>g16 x.1 x.2.1 }
theorem o16:Holds Tryz.prog 16 c16:=f0 t16 Tryz.func16 (tc o65 (tc o66 (tc o67 (tc o68 (tc o69 (tc o70 tn))))))
noncomputable def t159:Tbl:=[]
abbrev h159_L0:Shape:={ slots:=[(0,.v (.int .i64)),(3,.v .str)],boxes:=[] }
abbrev e159_L0:List (XT×Shape):=[(.exit 0,{ slots:=[(3,.v .str)],boxes:=[] })]
noncomputable def q159_L0 (t0:Int) (t3:ByteArray):Option (((Int×(ByteArray×Unit))×Unit)⊕(((ByteArray×Unit)×Unit)⊕Empty)) :=
bif (decide (t0 > (0:Int))) then bif (Nat.ble ((strOfL (L.of (Ty.zero (.int .u8)) [(IntKind.wrap .u8 ((wI ((48:Int) + (Int.tmod t0 (10:Int))))))])).size + t3.size) 9223372036854775807) then some (.inl (((wI (Int.tdiv t0 (10:Int))),(((strOfL (L.of (Ty.zero (.int .u8)) [(IntKind.wrap .u8 ((wI ((48:Int) + (Int.tmod t0 (10:Int))))))])) ++ t3),())),())) else none else some (.inr (.inl ((t3,()),())))
noncomputable def s159_L0 (x:((Int×(ByteArray×Unit))×Unit)):=q159_L0 x.1.1 x.1.2.1
noncomputable def a159:Nat→Option LoopAnn:=fun c=>bif Nat.beq c 0 then some (.fix h159_L0 e159_L0 s159_L0) else none
noncomputable def g159 (x0:Int):Option ((ByteArray×Unit)×Unit) :=
bif (decide (x0≤(0:Int))) then some (((⟨#[109,48]⟩:ByteArray),()),()) else (fixO s159_L0 ((x0,((⟨#[]⟩:ByteArray),())),())).bind fun d2=>match d2 with | .inl y1=>bif (Nat.ble ((⟨#[109]⟩:ByteArray).size + y1.1.1.size) 9223372036854775807) then some ((((⟨#[109]⟩:ByteArray) ++ y1.1.1),()),()) else none | .inr e=>nomatch e
noncomputable def c159:Ctr:={ ins:=[.v (.int .i64)],out:=[.str],F:=fun x=>g159 x.1 }
noncomputable def l159:List (Nat×Code):=loopsIn (Tryz.f159.body.getD .skip) 0
theorem w159_L0:LW t159 a159 l159 0 0 h159_L0 e159_L0 s159_L0:=fun x=>by kernel_rfl
theorem o159:Holds Tryz.prog 159 c159:=fh t159 a159 Tryz.func159 [(0,lg l159 0)] ⟨fun x d h=>(w159_L0 x).trans h,trivial⟩ tn
noncomputable def t160w:Tbl:=[]
abbrev h160w_L0:Shape:={ slots:=[(0,.ms 200000000),(1,.v (.int .i64)),(5,.v (.int .i64))],boxes:=[(200000000,.row Ty129)] }
abbrev e160w_L0:List (XT×Shape):=[(.exit 0,{ slots:=[(1,.v (.int .i64))],boxes:=[(200000000,.row Ty129)] })]
noncomputable def q160w_L0 (t1:Int) (t5:Int) (r200000000:Ta12):Option (Ta124⊕(Ta85⊕Empty)) :=
bif (decide (t5 < (r200000000.len:Int))) then bif (decide (0≤t5)&&decide (t5 < (r200000000.len:Int))) then bif (decide (0≤t5)&&decide (t5 < ((L.upd r200000000 t5.toNat fun e=>(t1,e.2)).len:Int))) then bif (decide (0≤t5)&&decide (t5 < ((L.upd (L.upd r200000000 t5.toNat fun e=>(t1,e.2)) t5.toNat fun e=>(e.1,((wI (t1 + (1:Int))),e.2.2))).len:Int))) then some (.inl (((),((wI ((wI ((wI (t1 + (1:Int))) + (1:Int))) + (1:Int))),((wI (t5 + (1:Int))),()))),((L.upd (L.upd (L.upd r200000000 t5.toNat fun e=>(t1,e.2)) t5.toNat fun e=>(e.1,((wI (t1 + (1:Int))),e.2.2))) t5.toNat fun e=>(e.1,(e.2.1,((wI ((wI (t1 + (1:Int))) + (1:Int))),())))),()))) else none else none else none else some (.inr (.inl ((t1,()),(r200000000,()))))
noncomputable def s160w_L0 (x:Ta124):=q160w_L0 x.1.2.1 x.1.2.2.1 x.2.1
noncomputable def a160w:Nat→Option LoopAnn:=fun c=>bif Nat.beq c 0 then some (.fix h160w_L0 e160w_L0 s160w_L0) else none
noncomputable def g160w (x0:Ta12) (x1:Int):Option Ta85 :=
(fixO s160w_L0 (((),(x1,((0:Int),()))),(x0,()))).bind fun d2=>match d2 with | .inl y1=>some ((y1.1.1,()),(y1.2.1,())) | .inr e=>nomatch e
noncomputable def c160w:Ctr:={ ins:=[.ow Ty138,.v (.int .i64)],out:=[(.int .i64)],F:=fun x=>g160w x.1 x.2.1 }
noncomputable def l160w:List (Nat×Code):=loopsIn (Tryz.f160.body.getD .skip) 0
theorem w160w_L0:LW t160w a160w l160w 0 0 h160w_L0 e160w_L0 s160w_L0:=fun x=>by kernel_rfl
theorem o160w:Holds Tryz.prog 160 c160w:=fh t160w a160w Tryz.func160 [(0,lg l160w 0)] ⟨fun x d h=>(w160w_L0 x).trans h,trivial⟩ tn
noncomputable def t72w:Tbl:=[(159,[],c159),(160,[],c160w)]
abbrev h72w_L0:Shape:={ slots:=[(0,.ms 200000000),(1,.v (.int .i64)),(5,.v (.int .i64))],boxes:=[(200000000,.row Ty259)] }
abbrev e72w_L0:List (XT×Shape):=[(.exit 0,{ slots:=[(1,.v (.int .i64))],boxes:=[(200000000,.row Ty259)] })]
noncomputable def q72w_L0 (t1:Int) (t5:Int) (r200000000:Ta141):Option (((Unit×(Int×(Int×Unit)))×Ta153)⊕(((Int×Unit)×Ta153)⊕Empty)) :=
bif (decide (t5 < (r200000000.len:Int))) then (g159 t1).bind fun y1=>bif (decide (0≤t5)&&decide (t5 < (r200000000.len:Int))) then bif (decide (0≤t5)&&decide (t5 < ((L.upd r200000000 t5.toNat fun e=>(y1.1.1,e.2)).len:Int))) then bif (decide (0≤t5)&&decide (t5 < ((L.upd (L.upd r200000000 t5.toNat fun e=>(y1.1.1,e.2)) t5.toNat fun e=>(e.1,((wI (t1 + (1:Int))),e.2.2))).len:Int))) then bif (decide (0≤t5)&&decide (t5 < ((L.upd (L.upd (L.upd r200000000 t5.toNat fun e=>(y1.1.1,e.2)) t5.toNat fun e=>(e.1,((wI (t1 + (1:Int))),e.2.2))) t5.toNat fun e=>(e.1,(e.2.1,(((wI ((wI (t1 + (1:Int))) + (1:Int))),e.2.2.1.2),e.2.2.2)))).len:Int))) then bif (decide (0≤t5)&&decide (t5 < ((L.upd (L.upd (L.upd (L.upd r200000000 t5.toNat fun e=>(y1.1.1,e.2)) t5.toNat fun e=>(e.1,((wI (t1 + (1:Int))),e.2.2))) t5.toNat fun e=>(e.1,(e.2.1,(((wI ((wI (t1 + (1:Int))) + (1:Int))),e.2.2.1.2),e.2.2.2)))) t5.toNat fun e=>(e.1,(e.2.1,((e.2.2.1.1,((wI ((wI ((wI (t1 + (1:Int))) + (1:Int))) + (1:Int))),())),e.2.2.2)))).len:Int))) then (g160w (L.get (L.upd (L.upd (L.upd (L.upd r200000000 t5.toNat fun e=>(y1.1.1,e.2)) t5.toNat fun e=>(e.1,((wI (t1 + (1:Int))),e.2.2))) t5.toNat fun e=>(e.1,(e.2.1,(((wI ((wI (t1 + (1:Int))) + (1:Int))),e.2.2.1.2),e.2.2.2)))) t5.toNat fun e=>(e.1,(e.2.1,((e.2.2.1.1,((wI ((wI ((wI (t1 + (1:Int))) + (1:Int))) + (1:Int))),())),e.2.2.2)))) t5.toNat).2.2.2.1 (wI ((wI ((wI ((wI (t1 + (1:Int))) + (1:Int))) + (1:Int))) + (1:Int)))).bind fun y2=>some (.inl (((),(y2.1.1,((wI (t5 + (1:Int))),()))),((L.upd (L.upd (L.upd (L.upd (L.upd r200000000 t5.toNat fun e=>(y1.1.1,e.2)) t5.toNat fun e=>(e.1,((wI (t1 + (1:Int))),e.2.2))) t5.toNat fun e=>(e.1,(e.2.1,(((wI ((wI (t1 + (1:Int))) + (1:Int))),e.2.2.1.2),e.2.2.2)))) t5.toNat fun e=>(e.1,(e.2.1,((e.2.2.1.1,((wI ((wI ((wI (t1 + (1:Int))) + (1:Int))) + (1:Int))),())),e.2.2.2)))) t5.toNat fun e=>(e.1,(e.2.1,(e.2.2.1,(y2.2.1,e.2.2.2.2))))),()))) else none else none else none else none else none else some (.inr (.inl ((t1,()),(r200000000,()))))
noncomputable def s72w_L0 (x:((Unit×(Int×(Int×Unit)))×Ta153)):=q72w_L0 x.1.2.1 x.1.2.2.1 x.2.1
noncomputable def a72w:Nat→Option LoopAnn:=fun c=>bif Nat.beq c 0 then some (.fix h72w_L0 e72w_L0 s72w_L0) else none
noncomputable def g72w (x0:Ta141) (x1:Int):Option ((Int×Unit)×Ta153) :=
(fixO s72w_L0 (((),(x1,((0:Int),()))),(x0,()))).bind fun d4=>match d4 with | .inl y3=>some ((y3.1.1,()),(y3.2.1,())) | .inr e=>nomatch e
noncomputable def c72w:Ctr:={ ins:=[.ow Ty267,.v (.int .i64)],out:=[(.int .i64)],F:=fun x=>g72w x.1 x.2.1 }
noncomputable def l72w:List (Nat×Code):=loopsIn (Tryz.f72.body.getD .skip) 0
theorem w72w_L0:LW t72w a72w l72w 0 0 h72w_L0 e72w_L0 s72w_L0:=fun x=>by kernel_rfl
theorem o72w:Holds Tryz.prog 72 c72w:=fh t72w a72w Tryz.func72 [(0,lg l72w 0)] ⟨fun x d h=>(w72w_L0 x).trans h,trivial⟩ (tc o159 (tc o160w tn))
noncomputable def t73w:Tbl:=[]
abbrev h73w_L0:Shape:={ slots:=[(0,.ms 200000000),(1,.v (.int .i64)),(5,.v (.int .i64))],boxes:=[(200000000,.row (.int .i64))] }
abbrev e73w_L0:List (XT×Shape):=[(.exit 0,{ slots:=[(1,.v (.int .i64))],boxes:=[(200000000,.row (.int .i64))] })]
noncomputable def q73w_L0 (t1:Int) (t5:Int) (r200000000:(L Int)):Option (Ta66⊕(Ta16⊕Empty)) :=
bif (decide (t5 < (r200000000.len:Int))) then bif (decide (0≤t5)&&decide (t5 < (r200000000.len:Int))) then some (.inl (((),((wI (t1 + (1:Int))),((wI (t5 + (1:Int))),()))),((L.set r200000000 t5.toNat t1),()))) else none else some (.inr (.inl ((t1,()),(r200000000,()))))
noncomputable def s73w_L0 (x:Ta66):=q73w_L0 x.1.2.1 x.1.2.2.1 x.2.1
noncomputable def a73w:Nat→Option LoopAnn:=fun c=>bif Nat.beq c 0 then some (.fix h73w_L0 e73w_L0 s73w_L0) else none
noncomputable def g73w (x0:(L Int)) (x1:Int):Option Ta16 :=
(fixO s73w_L0 (((),(x1,((0:Int),()))),(x0,()))).bind fun d2=>match d2 with | .inl y1=>some ((y1.1.1,()),(y1.2.1,())) | .inr e=>nomatch e
noncomputable def c73w:Ctr:={ ins:=[.ow (.sl (.int .i64)),.v (.int .i64)],out:=[(.int .i64)],F:=fun x=>g73w x.1 x.2.1 }
noncomputable def l73w:List (Nat×Code):=loopsIn (Tryz.f73.body.getD .skip) 0
theorem w73w_L0:LW t73w a73w l73w 0 0 h73w_L0 e73w_L0 s73w_L0:=fun x=>by kernel_rfl
theorem o73w:Holds Tryz.prog 73 c73w:=fh t73w a73w Tryz.func73 [(0,lg l73w 0)] ⟨fun x d h=>(w73w_L0 x).trans h,trivial⟩ tn
noncomputable def t74w:Tbl:=[]
abbrev h74w_L0:Shape:={ slots:=[(0,.ms 200000000),(1,.v (.int .i64)),(5,.v (.int .i64))],boxes:=[(200000000,.row Ty164)] }
abbrev e74w_L0:List (XT×Shape):=[(.exit 0,{ slots:=[(1,.v (.int .i64))],boxes:=[(200000000,.row Ty164)] })]
noncomputable def q74w_L0 (t1:Int) (t5:Int) (r200000000:Ta36):Option (((Unit×(Int×(Int×Unit)))×Ta59)⊕(((Int×Unit)×Ta59)⊕Empty)) :=
bif (decide (t5 < (r200000000.len:Int))) then bif (decide (0≤t5)&&decide (t5 < (r200000000.len:Int))) then bif (decide (0≤t5)&&decide (t5 < ((L.upd r200000000 t5.toNat fun e=>(t1,e.2)).len:Int))) then bif (decide (0≤t5)&&decide (t5 < ((L.upd (L.upd r200000000 t5.toNat fun e=>(t1,e.2)) t5.toNat fun e=>(e.1,((wI (t1 + (1:Int))),e.2.2))).len:Int))) then bif (decide (0≤t5)&&decide (t5 < ((L.upd (L.upd (L.upd r200000000 t5.toNat fun e=>(t1,e.2)) t5.toNat fun e=>(e.1,((wI (t1 + (1:Int))),e.2.2))) t5.toNat fun e=>(e.1,(e.2.1,((wI ((wI (t1 + (1:Int))) + (1:Int))),e.2.2.2)))).len:Int))) then some (.inl (((),((wI ((wI ((wI ((wI (t1 + (1:Int))) + (1:Int))) + (1:Int))) + (1:Int))),((wI (t5 + (1:Int))),()))),((L.upd (L.upd (L.upd (L.upd r200000000 t5.toNat fun e=>(t1,e.2)) t5.toNat fun e=>(e.1,((wI (t1 + (1:Int))),e.2.2))) t5.toNat fun e=>(e.1,(e.2.1,((wI ((wI (t1 + (1:Int))) + (1:Int))),e.2.2.2)))) t5.toNat fun e=>(e.1,(e.2.1,(e.2.2.1,((wI ((wI ((wI (t1 + (1:Int))) + (1:Int))) + (1:Int))),()))))),()))) else none else none else none else none else some (.inr (.inl ((t1,()),(r200000000,()))))
noncomputable def s74w_L0 (x:((Unit×(Int×(Int×Unit)))×Ta59)):=q74w_L0 x.1.2.1 x.1.2.2.1 x.2.1
noncomputable def a74w:Nat→Option LoopAnn:=fun c=>bif Nat.beq c 0 then some (.fix h74w_L0 e74w_L0 s74w_L0) else none
noncomputable def g74w (x0:Ta36) (x1:Int):Option ((Int×Unit)×Ta59) :=
(fixO s74w_L0 (((),(x1,((0:Int),()))),(x0,()))).bind fun d2=>match d2 with | .inl y1=>some ((y1.1.1,()),(y1.2.1,())) | .inr e=>nomatch e
noncomputable def c74w:Ctr:={ ins:=[.ow Ty169,.v (.int .i64)],out:=[(.int .i64)],F:=fun x=>g74w x.1 x.2.1 }
noncomputable def l74w:List (Nat×Code):=loopsIn (Tryz.f74.body.getD .skip) 0
theorem w74w_L0:LW t74w a74w l74w 0 0 h74w_L0 e74w_L0 s74w_L0:=fun x=>by kernel_rfl
theorem o74w:Holds Tryz.prog 74 c74w:=fh t74w a74w Tryz.func74 [(0,lg l74w 0)] ⟨fun x d h=>(w74w_L0 x).trans h,trivial⟩ tn
noncomputable def t75w:Tbl:=[]
abbrev h75w_L0:Shape:={ slots:=[(0,.ms 200000000),(1,.v (.int .i64)),(5,.v (.int .i64))],boxes:=[(200000000,.row Ty129)] }
abbrev e75w_L0:List (XT×Shape):=[(.exit 0,{ slots:=[(1,.v (.int .i64))],boxes:=[(200000000,.row Ty129)] })]
noncomputable def q75w_L0 (t1:Int) (t5:Int) (r200000000:Ta12):Option (Ta124⊕(Ta85⊕Empty)) :=
bif (decide (t5 < (r200000000.len:Int))) then bif (decide (0≤t5)&&decide (t5 < (r200000000.len:Int))) then bif (decide (0≤t5)&&decide (t5 < ((L.upd r200000000 t5.toNat fun e=>(t1,e.2)).len:Int))) then bif (decide (0≤t5)&&decide (t5 < ((L.upd (L.upd r200000000 t5.toNat fun e=>(t1,e.2)) t5.toNat fun e=>(e.1,((wI (t1 + (1:Int))),e.2.2))).len:Int))) then some (.inl (((),((wI ((wI ((wI (t1 + (1:Int))) + (1:Int))) + (1:Int))),((wI (t5 + (1:Int))),()))),((L.upd (L.upd (L.upd r200000000 t5.toNat fun e=>(t1,e.2)) t5.toNat fun e=>(e.1,((wI (t1 + (1:Int))),e.2.2))) t5.toNat fun e=>(e.1,(e.2.1,((wI ((wI (t1 + (1:Int))) + (1:Int))),())))),()))) else none else none else none else some (.inr (.inl ((t1,()),(r200000000,()))))
noncomputable def s75w_L0 (x:Ta124):=q75w_L0 x.1.2.1 x.1.2.2.1 x.2.1
noncomputable def a75w:Nat→Option LoopAnn:=fun c=>bif Nat.beq c 0 then some (.fix h75w_L0 e75w_L0 s75w_L0) else none
noncomputable def g75w (x0:Ta12) (x1:Int):Option Ta85 :=
(fixO s75w_L0 (((),(x1,((0:Int),()))),(x0,()))).bind fun d2=>match d2 with | .inl y1=>some ((y1.1.1,()),(y1.2.1,())) | .inr e=>nomatch e
noncomputable def c75w:Ctr:={ ins:=[.ow Ty138,.v (.int .i64)],out:=[(.int .i64)],F:=fun x=>g75w x.1 x.2.1 }
noncomputable def l75w:List (Nat×Code):=loopsIn (Tryz.f75.body.getD .skip) 0
theorem w75w_L0:LW t75w a75w l75w 0 0 h75w_L0 e75w_L0 s75w_L0:=fun x=>by kernel_rfl
theorem o75w:Holds Tryz.prog 75 c75w:=fh t75w a75w Tryz.func75 [(0,lg l75w 0)] ⟨fun x d h=>(w75w_L0 x).trans h,trivial⟩ tn
noncomputable def t18w:Tbl:=[(72,[],c72w),(73,[],c73w),(74,[],c74w),(75,[],c75w)]
noncomputable def g18w (x0:Ta330) (x1:Int):Option ((Int×Unit)×Ta335) :=
(g72w x0.2.2.2.2.2.2.2.1 x1).bind fun y1=>(g73w x0.2.2.2.2.2.2.2.2.1 y1.1.1).bind fun y2=>(g74w x0.2.2.2.2.2.2.2.2.2.1 y2.1.1).bind fun y3=>(g75w x0.2.2.2.2.2.2.2.2.2.2.1 y3.1.1).bind fun y4=>some ((y4.1.1,()),(((Ty.zero (.int .i64)),(((Ty.zero (.int .i64)),((Ty.zero (.int .i64)),((Ty.zero (.int .i64)),(Ty.zero .unit)))),((Ty.zero (.int .i64)),(((Ty.zero (.int .i64)),((Ty.zero (.int .i64)),((Ty.zero (.int .i64)),((Ty.zero (.int .i64)),((Ty.zero (.int .i64)),((Ty.zero (.int .i64)),((Ty.zero (.int .i64)),(Ty.zero .unit)))))))),((Ty.zero (.int .i64)),((Ty.zero (.int .i64)),((Ty.zero (.int .i64)),(y1.2.1,(y2.2.1,(y3.2.1,(y4.2.1,(Ty.zero .unit)))))))))))),()))
noncomputable def c18w:Ctr:={ ins:=[.ow Ty370,.v (.int .i64)],out:=[(.int .i64)],F:=fun x=>g18w x.1 x.2.1 }
theorem o18w:Holds Tryz.prog 18 c18w:=f0 t18w Tryz.func18 (tc o72w (tc o73w (tc o74w (tc o75w tn))))
noncomputable def t161w:Tbl:=[]
abbrev h161w_L0:Shape:={ slots:=[(0,.ms 200000000),(1,.v (.int .i64)),(5,.v (.int .i64))],boxes:=[(200000000,.row (.int .u32))] }
abbrev e161w_L0:List (XT×Shape):=[(.exit 0,{ slots:=[(1,.v (.int .i64))],boxes:=[(200000000,.row (.int .u32))] })]
noncomputable def q161w_L0 (t1:Int) (t5:Int) (r200000000:(L Int)):Option (Ta66⊕(Ta16⊕Empty)) :=
bif (decide (t5 < (r200000000.len:Int))) then bif (decide (0≤t5)&&decide (t5 < (r200000000.len:Int))) then some (.inl (((),((wI (t1 + (1:Int))),((wI (t5 + (1:Int))),()))),((L.set r200000000 t5.toNat (IntKind.wrap .u32 (t1))),()))) else none else some (.inr (.inl ((t1,()),(r200000000,()))))
noncomputable def s161w_L0 (x:Ta66):=q161w_L0 x.1.2.1 x.1.2.2.1 x.2.1
noncomputable def a161w:Nat→Option LoopAnn:=fun c=>bif Nat.beq c 0 then some (.fix h161w_L0 e161w_L0 s161w_L0) else none
noncomputable def g161w (x0:(L Int)) (x1:Int):Option Ta16 :=
(fixO s161w_L0 (((),(x1,((0:Int),()))),(x0,()))).bind fun d2=>match d2 with | .inl y1=>some ((y1.1.1,()),(y1.2.1,())) | .inr e=>nomatch e
noncomputable def c161w:Ctr:={ ins:=[.ow (.sl (.int .u32)),.v (.int .i64)],out:=[(.int .i64)],F:=fun x=>g161w x.1 x.2.1 }
noncomputable def l161w:List (Nat×Code):=loopsIn (Tryz.f161.body.getD .skip) 0
theorem w161w_L0:LW t161w a161w l161w 0 0 h161w_L0 e161w_L0 s161w_L0:=fun x=>by kernel_rfl
theorem o161w:Holds Tryz.prog 161 c161w:=fh t161w a161w Tryz.func161 [(0,lg l161w 0)] ⟨fun x d h=>(w161w_L0 x).trans h,trivial⟩ tn
noncomputable def t76w:Tbl:=[]
abbrev h76w_L0:Shape:={ slots:=[(0,.ms 200000000),(1,.v (.int .i64)),(5,.v (.int .i64))],boxes:=[(200000000,.row (.int .u8))] }
abbrev e76w_L0:List (XT×Shape):=[(.exit 0,{ slots:=[(1,.v (.int .i64))],boxes:=[(200000000,.row (.int .u8))] })]
noncomputable def q76w_L0 (t1:Int) (t5:Int) (r200000000:(L Int)):Option (Ta66⊕(Ta16⊕Empty)) :=
bif (decide (t5 < (r200000000.len:Int))) then bif (decide (0≤t5)&&decide (t5 < (r200000000.len:Int))) then some (.inl (((),((wI (t1 + (1:Int))),((wI (t5 + (1:Int))),()))),((L.set r200000000 t5.toNat (IntKind.wrap .u8 (t1))),()))) else none else some (.inr (.inl ((t1,()),(r200000000,()))))
noncomputable def s76w_L0 (x:Ta66):=q76w_L0 x.1.2.1 x.1.2.2.1 x.2.1
noncomputable def a76w:Nat→Option LoopAnn:=fun c=>bif Nat.beq c 0 then some (.fix h76w_L0 e76w_L0 s76w_L0) else none
noncomputable def g76w (x0:(L Int)) (x1:Int):Option Ta16 :=
(fixO s76w_L0 (((),(x1,((0:Int),()))),(x0,()))).bind fun d2=>match d2 with | .inl y1=>some ((y1.1.1,()),(y1.2.1,())) | .inr e=>nomatch e
noncomputable def c76w:Ctr:={ ins:=[.ow (.sl (.int .u8)),.v (.int .i64)],out:=[(.int .i64)],F:=fun x=>g76w x.1 x.2.1 }
noncomputable def l76w:List (Nat×Code):=loopsIn (Tryz.f76.body.getD .skip) 0
theorem w76w_L0:LW t76w a76w l76w 0 0 h76w_L0 e76w_L0 s76w_L0:=fun x=>by kernel_rfl
theorem o76w:Holds Tryz.prog 76 c76w:=fh t76w a76w Tryz.func76 [(0,lg l76w 0)] ⟨fun x d h=>(w76w_L0 x).trans h,trivial⟩ tn
noncomputable def t19w:Tbl:=[(76,[],c76w)]
abbrev h19w_L0:Shape:={ slots:=[(0,.ms 200000000),(1,.v (.int .i64)),(5,.v (.int .i64))],boxes:=[(200000000,.row (.sl (.int .u8)))] }
abbrev e19w_L0:List (XT×Shape):=[(.exit 0,{ slots:=[(1,.v (.int .i64))],boxes:=[(200000000,.row (.sl (.int .u8)))] })]
noncomputable def q19w_L0 (t1:Int) (t5:Int) (r200000000:(L (L Int))):Option (((Unit×(Int×(Int×Unit)))×((L (L Int))×Unit))⊕(((Int×Unit)×((L (L Int))×Unit))⊕Empty)) :=
bif (decide (t5 < (r200000000.len:Int))) then bif (decide (0≤t5)&&decide (t5 < (r200000000.len:Int))) then (g76w (L.get r200000000 t5.toNat) t1).bind fun y1=>some (.inl (((),(y1.1.1,((wI (t5 + (1:Int))),()))),((L.upd r200000000 t5.toNat fun e=>y1.2.1),()))) else none else some (.inr (.inl ((t1,()),(r200000000,()))))
noncomputable def s19w_L0 (x:((Unit×(Int×(Int×Unit)))×((L (L Int))×Unit))):=q19w_L0 x.1.2.1 x.1.2.2.1 x.2.1
noncomputable def a19w:Nat→Option LoopAnn:=fun c=>bif Nat.beq c 0 then some (.fix h19w_L0 e19w_L0 s19w_L0) else none
noncomputable def g19w (x0:(L (L Int))) (x1:Int):Option ((Int×Unit)×((L (L Int))×Unit)) :=
(fixO s19w_L0 (((),(x1,((0:Int),()))),(x0,()))).bind fun d3=>match d3 with | .inl y2=>some ((y2.1.1,()),(y2.2.1,())) | .inr e=>nomatch e
noncomputable def c19w:Ctr:={ ins:=[.ow (.sl (.sl (.int .u8))),.v (.int .i64)],out:=[(.int .i64)],F:=fun x=>g19w x.1 x.2.1 }
noncomputable def l19w:List (Nat×Code):=loopsIn (Tryz.f19.body.getD .skip) 0
theorem w19w_L0:LW t19w a19w l19w 0 0 h19w_L0 e19w_L0 s19w_L0:=fun x=>by kernel_rfl
theorem o19w:Holds Tryz.prog 19 c19w:=fh t19w a19w Tryz.func19 [(0,lg l19w 0)] ⟨fun x d h=>(w19w_L0 x).trans h,trivial⟩ (tc o76w tn)
noncomputable def t77w:Tbl:=[(161,[],c161w),(19,[],c19w)]
noncomputable def g77w (x0:Ta43) (x1:Int):Option ((Int×Unit)×Ta67) :=
(g161w x0.1 x1).bind fun y1=>(g19w x0.2.2.1 y1.1.1).bind fun y2=>some ((y2.1.1,()),((y1.2.1,((Ty.zero (.int .u32)),(y2.2.1,(Ty.zero .unit)))),()))
noncomputable def c77w:Ctr:={ ins:=[.ow Ty154,.v (.int .i64)],out:=[(.int .i64)],F:=fun x=>g77w x.1 x.2.1 }
theorem o77w:Holds Tryz.prog 77 c77w:=f0 t77w Tryz.func77 (tc o161w (tc o19w tn))
noncomputable def t245w:Tbl:=[]
abbrev h245w_L0:Shape:={ slots:=[(0,.ms 200000000),(1,.v (.int .i64)),(5,.v (.int .i64))],boxes:=[(200000000,.row Ty57)] }
abbrev e245w_L0:List (XT×Shape):=[(.exit 0,{ slots:=[(1,.v (.int .i64))],boxes:=[(200000000,.row Ty57)] })]
noncomputable def q245w_L0 (t1:Int) (t5:Int) (r200000000:(L (Int×(Bool×Unit)))):Option (((Unit×(Int×(Int×Unit)))×Ta20)⊕(((Int×Unit)×Ta20)⊕Empty)) :=
bif (decide (t5 < (r200000000.len:Int))) then bif (decide (0≤t5)&&decide (t5 < (r200000000.len:Int))) then bif (decide (0≤t5)&&decide (t5 < ((L.upd r200000000 t5.toNat fun e=>(t1,e.2)).len:Int))) then some (.inl (((),((wI ((wI (t1 + (1:Int))) + (1:Int))),((wI (t5 + (1:Int))),()))),((L.upd (L.upd r200000000 t5.toNat fun e=>(t1,e.2)) t5.toNat fun e=>(e.1,(((Int.tmod (wI (t1 + (1:Int))) (3:Int)) == (0:Int)),()))),()))) else none else none else some (.inr (.inl ((t1,()),(r200000000,()))))
noncomputable def s245w_L0 (x:((Unit×(Int×(Int×Unit)))×Ta20)):=q245w_L0 x.1.2.1 x.1.2.2.1 x.2.1
noncomputable def a245w:Nat→Option LoopAnn:=fun c=>bif Nat.beq c 0 then some (.fix h245w_L0 e245w_L0 s245w_L0) else none
noncomputable def g245w (x0:(L (Int×(Bool×Unit)))) (x1:Int):Option ((Int×Unit)×Ta20) :=
(fixO s245w_L0 (((),(x1,((0:Int),()))),(x0,()))).bind fun d2=>match d2 with | .inl y1=>some ((y1.1.1,()),(y1.2.1,())) | .inr e=>nomatch e
noncomputable def c245w:Ctr:={ ins:=[.ow Ty76,.v (.int .i64)],out:=[(.int .i64)],F:=fun x=>g245w x.1 x.2.1 }
noncomputable def l245w:List (Nat×Code):=loopsIn (Tryz.f245.body.getD .skip) 0
theorem w245w_L0:LW t245w a245w l245w 0 0 h245w_L0 e245w_L0 s245w_L0:=fun x=>by kernel_rfl
theorem o245w:Holds Tryz.prog 245 c245w:=fh t245w a245w Tryz.func245 [(0,lg l245w 0)] ⟨fun x d h=>(w245w_L0 x).trans h,trivial⟩ tn
noncomputable def t162w:Tbl:=[(245,[],c245w)]
abbrev h162w_L0:Shape:={ slots:=[(0,.ms 200000000),(1,.v (.int .i64)),(5,.v (.int .i64))],boxes:=[(200000000,.row Ty76)] }
abbrev e162w_L0:List (XT×Shape):=[(.exit 0,{ slots:=[(1,.v (.int .i64))],boxes:=[(200000000,.row Ty76)] })]
noncomputable def q162w_L0 (t1:Int) (t5:Int) (r200000000:Ta6):Option (((Unit×(Int×(Int×Unit)))×Ta37)⊕(((Int×Unit)×Ta37)⊕Empty)) :=
bif (decide (t5 < (r200000000.len:Int))) then bif (decide (0≤t5)&&decide (t5 < (r200000000.len:Int))) then (g245w (L.get r200000000 t5.toNat) t1).bind fun y1=>some (.inl (((),(y1.1.1,((wI (t5 + (1:Int))),()))),((L.upd r200000000 t5.toNat fun e=>y1.2.1),()))) else none else some (.inr (.inl ((t1,()),(r200000000,()))))
noncomputable def s162w_L0 (x:((Unit×(Int×(Int×Unit)))×Ta37)):=q162w_L0 x.1.2.1 x.1.2.2.1 x.2.1
noncomputable def a162w:Nat→Option LoopAnn:=fun c=>bif Nat.beq c 0 then some (.fix h162w_L0 e162w_L0 s162w_L0) else none
noncomputable def g162w (x0:Ta6) (x1:Int):Option ((Int×Unit)×Ta37) :=
(fixO s162w_L0 (((),(x1,((0:Int),()))),(x0,()))).bind fun d3=>match d3 with | .inl y2=>some ((y2.1.1,()),(y2.2.1,())) | .inr e=>nomatch e
noncomputable def c162w:Ctr:={ ins:=[.ow Ty97,.v (.int .i64)],out:=[(.int .i64)],F:=fun x=>g162w x.1 x.2.1 }
noncomputable def l162w:List (Nat×Code):=loopsIn (Tryz.f162.body.getD .skip) 0
theorem w162w_L0:LW t162w a162w l162w 0 0 h162w_L0 e162w_L0 s162w_L0:=fun x=>by kernel_rfl
theorem o162w:Holds Tryz.prog 162 c162w:=fh t162w a162w Tryz.func162 [(0,lg l162w 0)] ⟨fun x d h=>(w162w_L0 x).trans h,trivial⟩ (tc o245w tn)
noncomputable def t78w:Tbl:=[(162,[],c162w)]
noncomputable def g78w (x0:Ta118) (x1:Int):Option ((Int×Unit)×Ta128) :=
(g162w x0.2.1 x1).bind fun y1=>some ((y1.1.1,()),((((Ty.zero (.int .i64)),((Ty.zero (.int .i64)),((Ty.zero (.int .i64)),(Ty.zero .unit)))),(y1.2.1,(Ty.zero .unit))),()))
noncomputable def c78w:Ctr:={ ins:=[.ow Ty225,.v (.int .i64)],out:=[(.int .i64)],F:=fun x=>g78w x.1 x.2.1 }
theorem o78w:Holds Tryz.prog 78 c78w:=f0 t78w Tryz.func78 (tc o162w tn)
noncomputable def t79w:Tbl:=[(73,[],c73w)]
noncomputable def g79w (x0:(Int×((L Int)×Unit))) (x1:Int):Option ((Int×Unit)×Ta15) :=
(g73w x0.2.1 x1).bind fun y1=>some ((y1.1.1,()),(((Ty.zero (.int .i64)),(y1.2.1,(Ty.zero .unit))),()))
noncomputable def c79w:Ctr:={ ins:=[.ow Ty99,.v (.int .i64)],out:=[(.int .i64)],F:=fun x=>g79w x.1 x.2.1 }
theorem o79w:Holds Tryz.prog 79 c79w:=f0 t79w Tryz.func79 (tc o73w tn)
noncomputable def t80w:Tbl:=[(161,[],c161w)]
abbrev h80w_L0:Shape:={ slots:=[(0,.ms 200000000),(1,.v (.int .i64)),(5,.v (.int .i64))],boxes:=[(200000000,.row Ty96)] }
abbrev e80w_L0:List (XT×Shape):=[(.exit 0,{ slots:=[(1,.v (.int .i64))],boxes:=[(200000000,.row Ty96)] })]
noncomputable def q80w_L0 (t1:Int) (t5:Int) (r200000000:Ta1):Option (((Unit×(Int×(Int×Unit)))×Ta33)⊕(((Int×Unit)×Ta33)⊕Empty)) :=
bif (decide (t5 < (r200000000.len:Int))) then bif (decide (0≤t5)&&decide (t5 < (r200000000.len:Int))) then bif (decide (0≤t5)&&decide (t5 < ((L.upd r200000000 t5.toNat fun e=>(t1,e.2)).len:Int))) then (g161w (L.get (L.upd r200000000 t5.toNat fun e=>(t1,e.2)) t5.toNat).2.1 (wI (t1 + (1:Int)))).bind fun y1=>some (.inl (((),(y1.1.1,((wI (t5 + (1:Int))),()))),((L.upd (L.upd r200000000 t5.toNat fun e=>(t1,e.2)) t5.toNat fun e=>(e.1,(y1.2.1,e.2.2))),()))) else none else none else some (.inr (.inl ((t1,()),(r200000000,()))))
noncomputable def s80w_L0 (x:((Unit×(Int×(Int×Unit)))×Ta33)):=q80w_L0 x.1.2.1 x.1.2.2.1 x.2.1
noncomputable def a80w:Nat→Option LoopAnn:=fun c=>bif Nat.beq c 0 then some (.fix h80w_L0 e80w_L0 s80w_L0) else none
noncomputable def g80w (x0:Ta1) (x1:Int):Option ((Int×Unit)×Ta33) :=
(fixO s80w_L0 (((),(x1,((0:Int),()))),(x0,()))).bind fun d3=>match d3 with | .inl y2=>some ((y2.1.1,()),(y2.2.1,())) | .inr e=>nomatch e
noncomputable def c80w:Ctr:={ ins:=[.ow Ty119,.v (.int .i64)],out:=[(.int .i64)],F:=fun x=>g80w x.1 x.2.1 }
noncomputable def l80w:List (Nat×Code):=loopsIn (Tryz.f80.body.getD .skip) 0
theorem w80w_L0:LW t80w a80w l80w 0 0 h80w_L0 e80w_L0 s80w_L0:=fun x=>by kernel_rfl
theorem o80w:Holds Tryz.prog 80 c80w:=fh t80w a80w Tryz.func80 [(0,lg l80w 0)] ⟨fun x d h=>(w80w_L0 x).trans h,trivial⟩ (tc o161w tn)
noncomputable def t81w:Tbl:=[(161,[],c161w)]
abbrev h81w_L0:Shape:={ slots:=[(0,.ms 200000000),(1,.v (.int .i64)),(5,.v (.int .i64))],boxes:=[(200000000,.row Ty30)] }
abbrev e81w_L0:List (XT×Shape):=[(.exit 0,{ slots:=[(1,.v (.int .i64))],boxes:=[(200000000,.row Ty30)] })]
noncomputable def q81w_L0 (t1:Int) (t5:Int) (r200000000:(L ((L Int)×Unit))):Option (((Unit×(Int×(Int×Unit)))×Ta9)⊕(((Int×Unit)×Ta9)⊕Empty)) :=
bif (decide (t5 < (r200000000.len:Int))) then bif (decide (0≤t5)&&decide (t5 < (r200000000.len:Int))) then (g161w (L.get r200000000 t5.toNat).1 t1).bind fun y1=>some (.inl (((),(y1.1.1,((wI (t5 + (1:Int))),()))),((L.upd r200000000 t5.toNat fun e=>(y1.2.1,e.2)),()))) else none else some (.inr (.inl ((t1,()),(r200000000,()))))
noncomputable def s81w_L0 (x:((Unit×(Int×(Int×Unit)))×Ta9)):=q81w_L0 x.1.2.1 x.1.2.2.1 x.2.1
noncomputable def a81w:Nat→Option LoopAnn:=fun c=>bif Nat.beq c 0 then some (.fix h81w_L0 e81w_L0 s81w_L0) else none
noncomputable def g81w (x0:(L ((L Int)×Unit))) (x1:Int):Option ((Int×Unit)×Ta9) :=
(fixO s81w_L0 (((),(x1,((0:Int),()))),(x0,()))).bind fun d3=>match d3 with | .inl y2=>some ((y2.1.1,()),(y2.2.1,())) | .inr e=>nomatch e
noncomputable def c81w:Ctr:={ ins:=[.ow Ty51,.v (.int .i64)],out:=[(.int .i64)],F:=fun x=>g81w x.1 x.2.1 }
noncomputable def l81w:List (Nat×Code):=loopsIn (Tryz.f81.body.getD .skip) 0
theorem w81w_L0:LW t81w a81w l81w 0 0 h81w_L0 e81w_L0 s81w_L0:=fun x=>by kernel_rfl
theorem o81w:Holds Tryz.prog 81 c81w:=fh t81w a81w Tryz.func81 [(0,lg l81w 0)] ⟨fun x d h=>(w81w_L0 x).trans h,trivial⟩ (tc o161w tn)
noncomputable def t82w:Tbl:=[(161,[],c161w)]
abbrev h82w_L0:Shape:={ slots:=[(0,.ms 200000000),(1,.v (.int .i64)),(5,.v (.int .i64))],boxes:=[(200000000,.row Ty117)] }
abbrev e82w_L0:List (XT×Shape):=[(.exit 0,{ slots:=[(1,.v (.int .i64))],boxes:=[(200000000,.row Ty117)] })]
noncomputable def q82w_L0 (t1:Int) (t5:Int) (r200000000:Ta18):Option (((Unit×(Int×(Int×Unit)))×Ta46)⊕(((Int×Unit)×Ta46)⊕Empty)) :=
bif (decide (t5 < (r200000000.len:Int))) then bif (decide (0≤t5)&&decide (t5 < (r200000000.len:Int))) then (g161w (L.get r200000000 t5.toNat).1 t1).bind fun y1=>bif (decide (0≤t5)&&decide (t5 < ((L.upd r200000000 t5.toNat fun e=>(y1.2.1,e.2)).len:Int))) then (g161w (L.get (L.upd r200000000 t5.toNat fun e=>(y1.2.1,e.2)) t5.toNat).2.1 y1.1.1).bind fun y2=>some (.inl (((),(y2.1.1,((wI (t5 + (1:Int))),()))),((L.upd (L.upd r200000000 t5.toNat fun e=>(y1.2.1,e.2)) t5.toNat fun e=>(e.1,(y2.2.1,e.2.2))),()))) else none else none else some (.inr (.inl ((t1,()),(r200000000,()))))
noncomputable def s82w_L0 (x:((Unit×(Int×(Int×Unit)))×Ta46)):=q82w_L0 x.1.2.1 x.1.2.2.1 x.2.1
noncomputable def a82w:Nat→Option LoopAnn:=fun c=>bif Nat.beq c 0 then some (.fix h82w_L0 e82w_L0 s82w_L0) else none
noncomputable def g82w (x0:Ta18) (x1:Int):Option ((Int×Unit)×Ta46) :=
(fixO s82w_L0 (((),(x1,((0:Int),()))),(x0,()))).bind fun d4=>match d4 with | .inl y3=>some ((y3.1.1,()),(y3.2.1,())) | .inr e=>nomatch e
noncomputable def c82w:Ctr:={ ins:=[.ow Ty125,.v (.int .i64)],out:=[(.int .i64)],F:=fun x=>g82w x.1 x.2.1 }
noncomputable def l82w:List (Nat×Code):=loopsIn (Tryz.f82.body.getD .skip) 0
theorem w82w_L0:LW t82w a82w l82w 0 0 h82w_L0 e82w_L0 s82w_L0:=fun x=>by kernel_rfl
theorem o82w:Holds Tryz.prog 82 c82w:=fh t82w a82w Tryz.func82 [(0,lg l82w 0)] ⟨fun x d h=>(w82w_L0 x).trans h,trivial⟩ (tc o161w tn)
noncomputable def t20w:Tbl:=[(77,[],c77w),(78,[],c78w),(79,[],c79w),(19,[],c19w),(80,[],c80w),(81,[],c81w),(82,[],c82w)]
noncomputable def g20w (x0:Ta348) (x1:Int):Option ((Int×Unit)×Ta349) :=
(g77w (x0.1.1,(x0.1.2.1,x0.1.2.2)) x1).bind fun y1=>(g78w (x0.2.2.2.1.1,x0.2.2.2.1.2) y1.1.1).bind fun y2=>(g79w (x0.2.2.2.2.1.1,x0.2.2.2.2.1.2) y2.1.1).bind fun y3=>(g19w x0.2.2.2.2.2.2.2.1 y3.1.1).bind fun y4=>(g80w x0.2.2.2.2.2.2.2.2.1 y4.1.1).bind fun y5=>(g81w x0.2.2.2.2.2.2.2.2.2.1 y5.1.1).bind fun y6=>(g82w x0.2.2.2.2.2.2.2.2.2.2.1 y6.1.1).bind fun y7=>some ((y7.1.1,()),(((y1.2.1.1,((Ty.zero (.int .u32)),(y1.2.1.2.2.1,(Ty.zero .unit)))),(((Ty.zero .bool),((Ty.zero (.int .u32)),((Ty.zero (.int .u32)),((Ty.zero (.int .u32)),((Ty.zero (.int .u32)),((Ty.zero .bool),((Ty.zero .bool),((Ty.zero (.int .u32)),(Ty.zero .unit))))))))),(((Ty.zero (.int .i64)),((Ty.zero (.int .i64)),((Ty.zero (.int .i64)),((Ty.zero .bool),(Ty.zero .unit))))),((((Ty.zero (.int .i64)),((Ty.zero (.int .i64)),((Ty.zero (.int .i64)),(Ty.zero .unit)))),(y2.2.1.2.1,(Ty.zero .unit))),(((Ty.zero (.int .i64)),(y3.2.1.2.1,(Ty.zero .unit))),((Ty.zero (.int .i64)),((Ty.zero .bool),(y4.2.1,(y5.2.1,(y6.2.1,(y7.2.1,(Ty.zero .unit)))))))))))),()))
noncomputable def c20w:Ctr:={ ins:=[.ow Ty371,.v (.int .i64)],out:=[(.int .i64)],F:=fun x=>g20w x.1 x.2.1 }
theorem o20w:Holds Tryz.prog 20 c20w:=f0 t20w Tryz.func20 (tc o77w (tc o78w (tc o79w (tc o19w (tc o80w (tc o81w (tc o82w tn)))))))
noncomputable def t163:Tbl:=[]
abbrev h163_L0:Shape:={ slots:=[(0,.v (.sl (.int .u32))),(1,.v (.int .i64)),(5,.v (.int .i64))],boxes:=[] }
abbrev e163_L0:List (XT×Shape):=[(.ret,{ slots:=[(4,.v (.int .i64))],boxes:=[] }),(.exit 0,{ slots:=[(1,.v (.int .i64))],boxes:=[] })]
noncomputable def q163_L0 (t0:(L Int)) (t1:Int) (t5:Int):Option (Ta41⊕(((Int×Unit)×Unit)⊕(((Int×Unit)×Unit)⊕Empty))) :=
bif (decide (t5 < (t0.len:Int))) then bif (decide (0≤t5)&&decide (t5 < (t0.len:Int))) then bif ((L.get t0 t5.toNat) != (IntKind.wrap .u32 (t1))) then some (.inr (.inl (((-1:Int),()),()))) else some (.inl ((t0,((wI (t1 + (1:Int))),((wI (t5 + (1:Int))),()))),())) else none else some (.inr (.inr (.inl ((t1,()),()))))
noncomputable def s163_L0 (x:Ta41):=q163_L0 x.1.1 x.1.2.1 x.1.2.2.1
noncomputable def a163:Nat→Option LoopAnn:=fun c=>bif Nat.beq c 0 then some (.fix h163_L0 e163_L0 s163_L0) else none
noncomputable def g163 (x0:(L Int)) (x1:Int):Option ((Int×Unit)×Unit) :=
(fixO s163_L0 ((x0,(x1,((0:Int),()))),())).bind fun d2=>match d2 with | .inl y1=>some ((y1.1.1,()),()) | .inr (.inl y1)=>some ((y1.1.1,()),()) | .inr (.inr e)=>nomatch e
noncomputable def c163:Ctr:={ ins:=[.v (.sl (.int .u32)),.v (.int .i64)],out:=[(.int .i64)],F:=fun x=>g163 x.1 x.2.1 }
noncomputable def l163:List (Nat×Code):=loopsIn (Tryz.f163.body.getD .skip) 0
theorem w163_L0:LW t163 a163 l163 0 0 h163_L0 e163_L0 s163_L0:=fun x=>by kernel_rfl
theorem o163:Holds Tryz.prog 163 c163:=fh t163 a163 Tryz.func163 [(0,lg l163 0)] ⟨fun x d h=>(w163_L0 x).trans h,trivial⟩ tn
noncomputable def t166:Tbl:=[]
abbrev h166_L0:Shape:={ slots:=[(0,.v (.sl (.int .u8))),(1,.v (.int .i64)),(5,.v (.int .i64))],boxes:=[] }
abbrev e166_L0:List (XT×Shape):=[(.ret,{ slots:=[(4,.v (.int .i64))],boxes:=[] }),(.exit 0,{ slots:=[(1,.v (.int .i64))],boxes:=[] })]
noncomputable def q166_L0 (t0:(L Int)) (t1:Int) (t5:Int):Option (Ta41⊕(((Int×Unit)×Unit)⊕(((Int×Unit)×Unit)⊕Empty))) :=
bif (decide (t5 < (t0.len:Int))) then bif (decide (0≤t5)&&decide (t5 < (t0.len:Int))) then bif ((L.get t0 t5.toNat) != (IntKind.wrap .u8 (t1))) then some (.inr (.inl (((-1:Int),()),()))) else some (.inl ((t0,((wI (t1 + (1:Int))),((wI (t5 + (1:Int))),()))),())) else none else some (.inr (.inr (.inl ((t1,()),()))))
noncomputable def s166_L0 (x:Ta41):=q166_L0 x.1.1 x.1.2.1 x.1.2.2.1
noncomputable def a166:Nat→Option LoopAnn:=fun c=>bif Nat.beq c 0 then some (.fix h166_L0 e166_L0 s166_L0) else none
noncomputable def g166 (x0:(L Int)) (x1:Int):Option ((Int×Unit)×Unit) :=
(fixO s166_L0 ((x0,(x1,((0:Int),()))),())).bind fun d2=>match d2 with | .inl y1=>some ((y1.1.1,()),()) | .inr (.inl y1)=>some ((y1.1.1,()),()) | .inr (.inr e)=>nomatch e
noncomputable def c166:Ctr:={ ins:=[.v (.sl (.int .u8)),.v (.int .i64)],out:=[(.int .i64)],F:=fun x=>g166 x.1 x.2.1 }
noncomputable def l166:List (Nat×Code):=loopsIn (Tryz.f166.body.getD .skip) 0
theorem w166_L0:LW t166 a166 l166 0 0 h166_L0 e166_L0 s166_L0:=fun x=>by kernel_rfl
theorem o166:Holds Tryz.prog 166 c166:=fh t166 a166 Tryz.func166 [(0,lg l166 0)] ⟨fun x d h=>(w166_L0 x).trans h,trivial⟩ tn
noncomputable def t86:Tbl:=[(166,[],c166)]
abbrev h86_L0:Shape:={ slots:=[(0,.v (.sl (.sl (.int .u8)))),(1,.v (.int .i64)),(5,.v (.int .i64))],boxes:=[] }
abbrev e86_L0:List (XT×Shape):=[(.ret,{ slots:=[(4,.v (.int .i64))],boxes:=[] }),(.exit 0,{ slots:=[(1,.v (.int .i64))],boxes:=[] })]
noncomputable def q86_L0 (t0:(L (L Int))) (t1:Int) (t5:Int):Option (Ta50⊕(((Int×Unit)×Unit)⊕(((Int×Unit)×Unit)⊕Empty))) :=
bif (decide (t5 < (t0.len:Int))) then bif (decide (0≤t5)&&decide (t5 < (t0.len:Int))) then (g166 (L.get t0 t5.toNat) t1).bind fun y1=>bif (decide (y1.1.1 < (0:Int))) then some (.inr (.inl (((-1:Int),()),()))) else some (.inl ((t0,(y1.1.1,((wI (t5 + (1:Int))),()))),())) else none else some (.inr (.inr (.inl ((t1,()),()))))
noncomputable def s86_L0 (x:Ta50):=q86_L0 x.1.1 x.1.2.1 x.1.2.2.1
noncomputable def a86:Nat→Option LoopAnn:=fun c=>bif Nat.beq c 0 then some (.fix h86_L0 e86_L0 s86_L0) else none
noncomputable def g86 (x0:(L (L Int))) (x1:Int):Option ((Int×Unit)×Unit) :=
(fixO s86_L0 ((x0,(x1,((0:Int),()))),())).bind fun d3=>match d3 with | .inl y2=>some ((y2.1.1,()),()) | .inr (.inl y2)=>some ((y2.1.1,()),()) | .inr (.inr e)=>nomatch e
noncomputable def c86:Ctr:={ ins:=[.v (.sl (.sl (.int .u8))),.v (.int .i64)],out:=[(.int .i64)],F:=fun x=>g86 x.1 x.2.1 }
noncomputable def l86:List (Nat×Code):=loopsIn (Tryz.f86.body.getD .skip) 0
theorem w86_L0:LW t86 a86 l86 0 0 h86_L0 e86_L0 s86_L0:=fun x=>by kernel_rfl
theorem o86:Holds Tryz.prog 86 c86:=fh t86 a86 Tryz.func86 [(0,lg l86 0)] ⟨fun x d h=>(w86_L0 x).trans h,trivial⟩ (tc o166 tn)
noncomputable def t83:Tbl:=[(163,[],c163),(86,[],c86)]
noncomputable def g83 (x0:Ta43) (x1:Int):Option ((Int×Unit)×Unit) :=
(g163 x0.1 x1).bind fun y1=>bif (decide (y1.1.1 < (0:Int))) then some (((-1:Int),()),()) else (g86 x0.2.2.1 y1.1.1).bind fun y2=>bif (decide (y2.1.1 < (0:Int))) then some (((-1:Int),()),()) else some ((y2.1.1,()),())
noncomputable def c83:Ctr:={ ins:=[.v Ty154,.v (.int .i64)],out:=[(.int .i64)],F:=fun x=>g83 x.1 x.2.1 }
theorem o83:Holds Tryz.prog 83 c83:=f0 t83 Tryz.func83 (tc o163 (tc o86 tn))
noncomputable def t246:Tbl:=[]
abbrev h246_L0:Shape:={ slots:=[(0,.v Ty76),(1,.v (.int .i64)),(5,.v (.int .i64))],boxes:=[] }
abbrev e246_L0:List (XT×Shape):=[(.ret,{ slots:=[(4,.v (.int .i64))],boxes:=[] }),(.exit 0,{ slots:=[(1,.v (.int .i64))],boxes:=[] })]
noncomputable def q246_L0 (t0:(L (Int×(Bool×Unit)))) (t1:Int) (t5:Int):Option ((Ta64×Unit)⊕(((Int×Unit)×Unit)⊕(((Int×Unit)×Unit)⊕Empty))) :=
bif (decide (t5 < (t0.len:Int))) then bif (decide (0≤t5)&&decide (t5 < (t0.len:Int))) then bif ((L.get t0 t5.toNat).1 != t1) then some (.inr (.inl (((-1:Int),()),()))) else bif (decide (0≤t5)&&decide (t5 < (t0.len:Int))) then bif (!((L.get t0 t5.toNat).2.1 == ((Int.tmod (wI (t1 + (1:Int))) (3:Int)) == (0:Int)))) then some (.inr (.inl (((-1:Int),()),()))) else some (.inl ((t0,((wI ((wI (t1 + (1:Int))) + (1:Int))),((wI (t5 + (1:Int))),()))),())) else none else none else some (.inr (.inr (.inl ((t1,()),()))))
noncomputable def s246_L0 (x:(Ta64×Unit)):=q246_L0 x.1.1 x.1.2.1 x.1.2.2.1
noncomputable def a246:Nat→Option LoopAnn:=fun c=>bif Nat.beq c 0 then some (.fix h246_L0 e246_L0 s246_L0) else none
noncomputable def g246 (x0:(L (Int×(Bool×Unit)))) (x1:Int):Option ((Int×Unit)×Unit) :=
(fixO s246_L0 ((x0,(x1,((0:Int),()))),())).bind fun d2=>match d2 with | .inl y1=>some ((y1.1.1,()),()) | .inr (.inl y1)=>some ((y1.1.1,()),()) | .inr (.inr e)=>nomatch e
noncomputable def c246:Ctr:={ ins:=[.v Ty76,.v (.int .i64)],out:=[(.int .i64)],F:=fun x=>g246 x.1 x.2.1 }
noncomputable def l246:List (Nat×Code):=loopsIn (Tryz.f246.body.getD .skip) 0
theorem w246_L0:LW t246 a246 l246 0 0 h246_L0 e246_L0 s246_L0:=fun x=>by kernel_rfl
theorem o246:Holds Tryz.prog 246 c246:=fh t246 a246 Tryz.func246 [(0,lg l246 0)] ⟨fun x d h=>(w246_L0 x).trans h,trivial⟩ tn
noncomputable def t164:Tbl:=[(246,[],c246)]
abbrev h164_L0:Shape:={ slots:=[(0,.v Ty97),(1,.v (.int .i64)),(5,.v (.int .i64))],boxes:=[] }
abbrev e164_L0:List (XT×Shape):=[(.ret,{ slots:=[(4,.v (.int .i64))],boxes:=[] }),(.exit 0,{ slots:=[(1,.v (.int .i64))],boxes:=[] })]
noncomputable def q164_L0 (t0:Ta6) (t1:Int) (t5:Int):Option (Ta98⊕(((Int×Unit)×Unit)⊕(((Int×Unit)×Unit)⊕Empty))) :=
bif (decide (t5 < (t0.len:Int))) then bif (decide (0≤t5)&&decide (t5 < (t0.len:Int))) then (g246 (L.get t0 t5.toNat) t1).bind fun y1=>bif (decide (y1.1.1 < (0:Int))) then some (.inr (.inl (((-1:Int),()),()))) else some (.inl ((t0,(y1.1.1,((wI (t5 + (1:Int))),()))),())) else none else some (.inr (.inr (.inl ((t1,()),()))))
noncomputable def s164_L0 (x:Ta98):=q164_L0 x.1.1 x.1.2.1 x.1.2.2.1
noncomputable def a164:Nat→Option LoopAnn:=fun c=>bif Nat.beq c 0 then some (.fix h164_L0 e164_L0 s164_L0) else none
noncomputable def g164 (x0:Ta6) (x1:Int):Option ((Int×Unit)×Unit) :=
(fixO s164_L0 ((x0,(x1,((0:Int),()))),())).bind fun d3=>match d3 with | .inl y2=>some ((y2.1.1,()),()) | .inr (.inl y2)=>some ((y2.1.1,()),()) | .inr (.inr e)=>nomatch e
noncomputable def c164:Ctr:={ ins:=[.v Ty97,.v (.int .i64)],out:=[(.int .i64)],F:=fun x=>g164 x.1 x.2.1 }
noncomputable def l164:List (Nat×Code):=loopsIn (Tryz.f164.body.getD .skip) 0
theorem w164_L0:LW t164 a164 l164 0 0 h164_L0 e164_L0 s164_L0:=fun x=>by kernel_rfl
theorem o164:Holds Tryz.prog 164 c164:=fh t164 a164 Tryz.func164 [(0,lg l164 0)] ⟨fun x d h=>(w164_L0 x).trans h,trivial⟩ (tc o246 tn)
noncomputable def t84:Tbl:=[(164,[],c164)]
noncomputable def g84 (x0:Ta118) (x1:Int):Option ((Int×Unit)×Unit) :=
(g164 x0.2.1 x1).bind fun y1=>bif (decide (y1.1.1 < (0:Int))) then some (((-1:Int),()),()) else some ((y1.1.1,()),())
noncomputable def c84:Ctr:={ ins:=[.v Ty225,.v (.int .i64)],out:=[(.int .i64)],F:=fun x=>g84 x.1 x.2.1 }
theorem o84:Holds Tryz.prog 84 c84:=f0 t84 Tryz.func84 (tc o164 tn)
noncomputable def t165:Tbl:=[]
abbrev h165_L0:Shape:={ slots:=[(0,.v (.sl (.int .i64))),(1,.v (.int .i64)),(5,.v (.int .i64))],boxes:=[] }
abbrev e165_L0:List (XT×Shape):=[(.ret,{ slots:=[(4,.v (.int .i64))],boxes:=[] }),(.exit 0,{ slots:=[(1,.v (.int .i64))],boxes:=[] })]
noncomputable def q165_L0 (t0:(L Int)) (t1:Int) (t5:Int):Option (Ta41⊕(((Int×Unit)×Unit)⊕(((Int×Unit)×Unit)⊕Empty))) :=
bif (decide (t5 < (t0.len:Int))) then bif (decide (0≤t5)&&decide (t5 < (t0.len:Int))) then bif ((L.get t0 t5.toNat) != t1) then some (.inr (.inl (((-1:Int),()),()))) else some (.inl ((t0,((wI (t1 + (1:Int))),((wI (t5 + (1:Int))),()))),())) else none else some (.inr (.inr (.inl ((t1,()),()))))
noncomputable def s165_L0 (x:Ta41):=q165_L0 x.1.1 x.1.2.1 x.1.2.2.1
noncomputable def a165:Nat→Option LoopAnn:=fun c=>bif Nat.beq c 0 then some (.fix h165_L0 e165_L0 s165_L0) else none
noncomputable def g165 (x0:(L Int)) (x1:Int):Option ((Int×Unit)×Unit) :=
(fixO s165_L0 ((x0,(x1,((0:Int),()))),())).bind fun d2=>match d2 with | .inl y1=>some ((y1.1.1,()),()) | .inr (.inl y1)=>some ((y1.1.1,()),()) | .inr (.inr e)=>nomatch e
noncomputable def c165:Ctr:={ ins:=[.v (.sl (.int .i64)),.v (.int .i64)],out:=[(.int .i64)],F:=fun x=>g165 x.1 x.2.1 }
noncomputable def l165:List (Nat×Code):=loopsIn (Tryz.f165.body.getD .skip) 0
theorem w165_L0:LW t165 a165 l165 0 0 h165_L0 e165_L0 s165_L0:=fun x=>by kernel_rfl
theorem o165:Holds Tryz.prog 165 c165:=fh t165 a165 Tryz.func165 [(0,lg l165 0)] ⟨fun x d h=>(w165_L0 x).trans h,trivial⟩ tn
noncomputable def t85:Tbl:=[(165,[],c165)]
noncomputable def g85 (x0:(Int×((L Int)×Unit))) (x1:Int):Option ((Int×Unit)×Unit) :=
(g165 x0.2.1 x1).bind fun y1=>bif (decide (y1.1.1 < (0:Int))) then some (((-1:Int),()),()) else some ((y1.1.1,()),())
noncomputable def c85:Ctr:={ ins:=[.v Ty99,.v (.int .i64)],out:=[(.int .i64)],F:=fun x=>g85 x.1 x.2.1 }
theorem o85:Holds Tryz.prog 85 c85:=f0 t85 Tryz.func85 (tc o165 tn)
noncomputable def t87:Tbl:=[(163,[],c163)]
abbrev h87_L0:Shape:={ slots:=[(0,.v Ty119),(1,.v (.int .i64)),(5,.v (.int .i64))],boxes:=[] }
abbrev e87_L0:List (XT×Shape):=[(.ret,{ slots:=[(4,.v (.int .i64))],boxes:=[] }),(.exit 0,{ slots:=[(1,.v (.int .i64))],boxes:=[] })]
noncomputable def q87_L0 (t0:Ta1) (t1:Int) (t5:Int):Option (Ta94⊕(((Int×Unit)×Unit)⊕(((Int×Unit)×Unit)⊕Empty))) :=
bif (decide (t5 < (t0.len:Int))) then bif (decide (0≤t5)&&decide (t5 < (t0.len:Int))) then bif ((L.get t0 t5.toNat).1 != t1) then some (.inr (.inl (((-1:Int),()),()))) else bif (decide (0≤t5)&&decide (t5 < (t0.len:Int))) then (g163 (L.get t0 t5.toNat).2.1 (wI (t1 + (1:Int)))).bind fun y1=>bif (decide (y1.1.1 < (0:Int))) then some (.inr (.inl (((-1:Int),()),()))) else some (.inl ((t0,(y1.1.1,((wI (t5 + (1:Int))),()))),())) else none else none else some (.inr (.inr (.inl ((t1,()),()))))
noncomputable def s87_L0 (x:Ta94):=q87_L0 x.1.1 x.1.2.1 x.1.2.2.1
noncomputable def a87:Nat→Option LoopAnn:=fun c=>bif Nat.beq c 0 then some (.fix h87_L0 e87_L0 s87_L0) else none
noncomputable def g87 (x0:Ta1) (x1:Int):Option ((Int×Unit)×Unit) :=
(fixO s87_L0 ((x0,(x1,((0:Int),()))),())).bind fun d3=>match d3 with | .inl y2=>some ((y2.1.1,()),()) | .inr (.inl y2)=>some ((y2.1.1,()),()) | .inr (.inr e)=>nomatch e
noncomputable def c87:Ctr:={ ins:=[.v Ty119,.v (.int .i64)],out:=[(.int .i64)],F:=fun x=>g87 x.1 x.2.1 }
noncomputable def l87:List (Nat×Code):=loopsIn (Tryz.f87.body.getD .skip) 0
theorem w87_L0:LW t87 a87 l87 0 0 h87_L0 e87_L0 s87_L0:=fun x=>by kernel_rfl
theorem o87:Holds Tryz.prog 87 c87:=fh t87 a87 Tryz.func87 [(0,lg l87 0)] ⟨fun x d h=>(w87_L0 x).trans h,trivial⟩ (tc o163 tn)
noncomputable def t88:Tbl:=[(163,[],c163)]
abbrev h88_L0:Shape:={ slots:=[(0,.v Ty51),(1,.v (.int .i64)),(5,.v (.int .i64))],boxes:=[] }
abbrev e88_L0:List (XT×Shape):=[(.ret,{ slots:=[(4,.v (.int .i64))],boxes:=[] }),(.exit 0,{ slots:=[(1,.v (.int .i64))],boxes:=[] })]
noncomputable def q88_L0 (t0:(L ((L Int)×Unit))) (t1:Int) (t5:Int):Option (Ta72⊕(((Int×Unit)×Unit)⊕(((Int×Unit)×Unit)⊕Empty))) :=
bif (decide (t5 < (t0.len:Int))) then bif (decide (0≤t5)&&decide (t5 < (t0.len:Int))) then (g163 (L.get t0 t5.toNat).1 t1).bind fun y1=>bif (decide (y1.1.1 < (0:Int))) then some (.inr (.inl (((-1:Int),()),()))) else some (.inl ((t0,(y1.1.1,((wI (t5 + (1:Int))),()))),())) else none else some (.inr (.inr (.inl ((t1,()),()))))
noncomputable def s88_L0 (x:Ta72):=q88_L0 x.1.1 x.1.2.1 x.1.2.2.1
noncomputable def a88:Nat→Option LoopAnn:=fun c=>bif Nat.beq c 0 then some (.fix h88_L0 e88_L0 s88_L0) else none
noncomputable def g88 (x0:(L ((L Int)×Unit))) (x1:Int):Option ((Int×Unit)×Unit) :=
(fixO s88_L0 ((x0,(x1,((0:Int),()))),())).bind fun d3=>match d3 with | .inl y2=>some ((y2.1.1,()),()) | .inr (.inl y2)=>some ((y2.1.1,()),()) | .inr (.inr e)=>nomatch e
noncomputable def c88:Ctr:={ ins:=[.v Ty51,.v (.int .i64)],out:=[(.int .i64)],F:=fun x=>g88 x.1 x.2.1 }
noncomputable def l88:List (Nat×Code):=loopsIn (Tryz.f88.body.getD .skip) 0
theorem w88_L0:LW t88 a88 l88 0 0 h88_L0 e88_L0 s88_L0:=fun x=>by kernel_rfl
theorem o88:Holds Tryz.prog 88 c88:=fh t88 a88 Tryz.func88 [(0,lg l88 0)] ⟨fun x d h=>(w88_L0 x).trans h,trivial⟩ (tc o163 tn)
noncomputable def t89:Tbl:=[(163,[],c163)]
abbrev h89_L0:Shape:={ slots:=[(0,.v Ty125),(1,.v (.int .i64)),(5,.v (.int .i64))],boxes:=[] }
abbrev e89_L0:List (XT×Shape):=[(.ret,{ slots:=[(4,.v (.int .i64))],boxes:=[] }),(.exit 0,{ slots:=[(1,.v (.int .i64))],boxes:=[] })]
noncomputable def q89_L0 (t0:Ta18) (t1:Int) (t5:Int):Option (Ta111⊕(((Int×Unit)×Unit)⊕(((Int×Unit)×Unit)⊕Empty))) :=
bif (decide (t5 < (t0.len:Int))) then bif (decide (0≤t5)&&decide (t5 < (t0.len:Int))) then (g163 (L.get t0 t5.toNat).1 t1).bind fun y1=>bif (decide (y1.1.1 < (0:Int))) then some (.inr (.inl (((-1:Int),()),()))) else bif (decide (0≤t5)&&decide (t5 < (t0.len:Int))) then (g163 (L.get t0 t5.toNat).2.1 y1.1.1).bind fun y2=>bif (decide (y2.1.1 < (0:Int))) then some (.inr (.inl (((-1:Int),()),()))) else some (.inl ((t0,(y2.1.1,((wI (t5 + (1:Int))),()))),())) else none else none else some (.inr (.inr (.inl ((t1,()),()))))
noncomputable def s89_L0 (x:Ta111):=q89_L0 x.1.1 x.1.2.1 x.1.2.2.1
noncomputable def a89:Nat→Option LoopAnn:=fun c=>bif Nat.beq c 0 then some (.fix h89_L0 e89_L0 s89_L0) else none
noncomputable def g89 (x0:Ta18) (x1:Int):Option ((Int×Unit)×Unit) :=
(fixO s89_L0 ((x0,(x1,((0:Int),()))),())).bind fun d4=>match d4 with | .inl y3=>some ((y3.1.1,()),()) | .inr (.inl y3)=>some ((y3.1.1,()),()) | .inr (.inr e)=>nomatch e
noncomputable def c89:Ctr:={ ins:=[.v Ty125,.v (.int .i64)],out:=[(.int .i64)],F:=fun x=>g89 x.1 x.2.1 }
noncomputable def l89:List (Nat×Code):=loopsIn (Tryz.f89.body.getD .skip) 0
theorem w89_L0:LW t89 a89 l89 0 0 h89_L0 e89_L0 s89_L0:=fun x=>by kernel_rfl
theorem o89:Holds Tryz.prog 89 c89:=fh t89 a89 Tryz.func89 [(0,lg l89 0)] ⟨fun x d h=>(w89_L0 x).trans h,trivial⟩ (tc o163 tn)
noncomputable def t21:Tbl:=[(83,[],c83),(84,[],c84),(85,[],c85),(86,[],c86),(87,[],c87),(88,[],c88),(89,[],c89)]
noncomputable def g21 (x0:Ta348) (x1:Int):Option ((Int×Unit)×Unit) :=
(g83 x0.1 x1).bind fun y1=>bif (decide (y1.1.1 < (0:Int))) then some (((-1:Int),()),()) else (g84 x0.2.2.2.1 y1.1.1).bind fun y2=>bif (decide (y2.1.1 < (0:Int))) then some (((-1:Int),()),()) else (g85 x0.2.2.2.2.1 y2.1.1).bind fun y3=>bif (decide (y3.1.1 < (0:Int))) then some (((-1:Int),()),()) else (g86 x0.2.2.2.2.2.2.2.1 y3.1.1).bind fun y4=>bif (decide (y4.1.1 < (0:Int))) then some (((-1:Int),()),()) else (g87 x0.2.2.2.2.2.2.2.2.1 y4.1.1).bind fun y5=>bif (decide (y5.1.1 < (0:Int))) then some (((-1:Int),()),()) else (g88 x0.2.2.2.2.2.2.2.2.2.1 y5.1.1).bind fun y6=>bif (decide (y6.1.1 < (0:Int))) then some (((-1:Int),()),()) else (g89 x0.2.2.2.2.2.2.2.2.2.2.1 y6.1.1).bind fun y7=>bif (decide (y7.1.1 < (0:Int))) then some (((-1:Int),()),()) else some ((y7.1.1,()),())
noncomputable def c21:Ctr:={ ins:=[.v Ty371,.v (.int .i64)],out:=[(.int .i64)],F:=fun x=>g21 x.1 x.2.1 }
theorem o21:Holds Tryz.prog 21 c21:=f0 t21 Tryz.func21 (tc o83 (tc o84 (tc o85 (tc o86 (tc o87 (tc o88 (tc o89 tn)))))))
noncomputable def t4:Tbl:=[(9,[],c9),(22,[],c22),(12,[],c12r),(24,[],c24r),(23,[],c23r),(25,[],c25r),(15,[],c15),(16,[],c16),(18,[],c18w),(20,[],c20w),(21,[],c21)]
noncomputable def g4 (x0:Ta330) (x1:Int) (x2:Ta348) (x3:Int) (x4:Int):Option ((Bool×Unit)×Unit) :=
(g9 x0 (1048576:Int)).bind fun y1=>bif (decide (y1.1.1 < (0:Int))) then some ((true,()),()) else (g22 x2 y1.1.1).bind fun y2=>bif (decide (y2.1.1 < (0:Int))) then some ((true,()),()) else (g12r x0).bind fun y3=>(g24r x2).bind fun y4=>(g23r (y3.1.1.1,(y3.1.1.2.1,(y3.1.1.2.2.1,(y3.1.1.2.2.2.1,(y3.1.1.2.2.2.2.1,(y3.1.1.2.2.2.2.2.1,(y3.1.1.2.2.2.2.2.2.1,y3.1.1.2.2.2.2.2.2.2))))))) x1 ((y4.1.1.1.1,(y4.1.1.1.2.1,y4.1.1.1.2.2)),(y4.1.1.2.1,(y4.1.1.2.2.1,((y4.1.1.2.2.2.1.1,y4.1.1.2.2.2.1.2),((y4.1.1.2.2.2.2.1.1,y4.1.1.2.2.2.2.1.2),(y4.1.1.2.2.2.2.2.1,(y4.1.1.2.2.2.2.2.2.1,y4.1.1.2.2.2.2.2.2.2))))))) x3 x4).bind fun y5=>(g12r x0).bind fun y6=>(g24r x2).bind fun y7=>(g25r (y6.1.1.1,(y6.1.1.2.1,(y6.1.1.2.2.1,(y6.1.1.2.2.2.1,(y6.1.1.2.2.2.2.1,(y6.1.1.2.2.2.2.2.1,(y6.1.1.2.2.2.2.2.2.1,y6.1.1.2.2.2.2.2.2.2))))))) x1 ((y7.1.1.1.1,(y7.1.1.1.2.1,y7.1.1.1.2.2)),(y7.1.1.2.1,(y7.1.1.2.2.1,((y7.1.1.2.2.2.1.1,y7.1.1.2.2.2.1.2),((y7.1.1.2.2.2.2.1.1,y7.1.1.2.2.2.2.1.2),(y7.1.1.2.2.2.2.2.1,(y7.1.1.2.2.2.2.2.2.1,y7.1.1.2.2.2.2.2.2.2))))))) x3 x4).bind fun y8=>(g15 ((y8.1.1.1.1,(y8.1.1.1.2.1,y8.1.1.1.2.2)),(y8.1.1.2.1,(y8.1.1.2.2.1,((y8.1.1.2.2.2.1.1,y8.1.1.2.2.2.1.2),((y8.1.1.2.2.2.2.1.1,y8.1.1.2.2.2.2.1.2),(y8.1.1.2.2.2.2.2.1,(y8.1.1.2.2.2.2.2.2.1,y8.1.1.2.2.2.2.2.2.2))))))) ((y5.1.1.1.1,(y5.1.1.1.2.1,y5.1.1.1.2.2)),(y5.1.1.2.1,(y5.1.1.2.2.1,((y5.1.1.2.2.2.1.1,y5.1.1.2.2.2.1.2),((y5.1.1.2.2.2.2.1.1,y5.1.1.2.2.2.2.1.2),(y5.1.1.2.2.2.2.2.1,(y5.1.1.2.2.2.2.2.2.1,y5.1.1.2.2.2.2.2.2.2)))))))).bind fun y9=>bif (!y9.1.1) then some ((false,()),()) else bif (!(y8.1.2.1 == y5.1.2.1)) then some ((false,()),()) else (g12r x0).bind fun y10=>(g16 (y6.1.1.1,(y6.1.1.2.1,(y6.1.1.2.2.1,(y6.1.1.2.2.2.1,(y6.1.1.2.2.2.2.1,(y6.1.1.2.2.2.2.2.1,(y6.1.1.2.2.2.2.2.2.1,y6.1.1.2.2.2.2.2.2.2))))))) (y10.1.1.1,(y10.1.1.2.1,(y10.1.1.2.2.1,(y10.1.1.2.2.2.1,(y10.1.1.2.2.2.2.1,(y10.1.1.2.2.2.2.2.1,(y10.1.1.2.2.2.2.2.2.1,y10.1.1.2.2.2.2.2.2.2)))))))).bind fun y11=>bif (!y11.1.1) then some ((false,()),()) else (g24r x2).bind fun y12=>(g15 ((y7.1.1.1.1,(y7.1.1.1.2.1,y7.1.1.1.2.2)),(y7.1.1.2.1,(y7.1.1.2.2.1,((y7.1.1.2.2.2.1.1,y7.1.1.2.2.2.1.2),((y7.1.1.2.2.2.2.1.1,y7.1.1.2.2.2.2.1.2),(y7.1.1.2.2.2.2.2.1,(y7.1.1.2.2.2.2.2.2.1,y7.1.1.2.2.2.2.2.2.2))))))) ((y12.1.1.1.1,(y12.1.1.1.2.1,y12.1.1.1.2.2)),(y12.1.1.2.1,(y12.1.1.2.2.1,((y12.1.1.2.2.2.1.1,y12.1.1.2.2.2.1.2),((y12.1.1.2.2.2.2.1.1,y12.1.1.2.2.2.2.1.2),(y12.1.1.2.2.2.2.2.1,(y12.1.1.2.2.2.2.2.2.1,y12.1.1.2.2.2.2.2.2.2)))))))).bind fun y13=>bif (!y13.1.1) then some ((false,()),()) else (g18w (y6.1.1.1,(y6.1.1.2.1,(y6.1.1.2.2.1,(y6.1.1.2.2.2.1,(y6.1.1.2.2.2.2.1,(y6.1.1.2.2.2.2.2.1,(y6.1.1.2.2.2.2.2.2.1,y6.1.1.2.2.2.2.2.2.2))))))) (1:Int)).bind fun y14=>(g20w ((y7.1.1.1.1,(y7.1.1.1.2.1,y7.1.1.1.2.2)),(y7.1.1.2.1,(y7.1.1.2.2.1,((y7.1.1.2.2.2.1.1,y7.1.1.2.2.2.1.2),((y7.1.1.2.2.2.2.1.1,y7.1.1.2.2.2.2.1.2),(y7.1.1.2.2.2.2.2.1,(y7.1.1.2.2.2.2.2.2.1,y7.1.1.2.2.2.2.2.2.2))))))) y14.1.1).bind fun y15=>bif (decide (y15.1.1 < (0:Int))) then some ((false,()),()) else (g15 ((y8.1.1.1.1,(y8.1.1.1.2.1,y8.1.1.1.2.2)),(y8.1.1.2.1,(y8.1.1.2.2.1,((y8.1.1.2.2.2.1.1,y8.1.1.2.2.2.1.2),((y8.1.1.2.2.2.2.1.1,y8.1.1.2.2.2.2.1.2),(y8.1.1.2.2.2.2.2.1,(y8.1.1.2.2.2.2.2.2.1,y8.1.1.2.2.2.2.2.2.2))))))) ((y5.1.1.1.1,(y5.1.1.1.2.1,y5.1.1.1.2.2)),(y5.1.1.2.1,(y5.1.1.2.2.1,((y5.1.1.2.2.2.1.1,y5.1.1.2.2.2.1.2),((y5.1.1.2.2.2.2.1.1,y5.1.1.2.2.2.2.1.2),(y5.1.1.2.2.2.2.2.1,(y5.1.1.2.2.2.2.2.2.1,y5.1.1.2.2.2.2.2.2.2)))))))).bind fun y16=>bif (!y16.1.1) then some ((false,()),()) else bif (!(y8.1.2.1 == y5.1.2.1)) then some ((false,()),()) else (g20w ((y8.1.1.1.1,(y8.1.1.1.2.1,y8.1.1.1.2.2)),(y8.1.1.2.1,(y8.1.1.2.2.1,((y8.1.1.2.2.2.1.1,y8.1.1.2.2.2.1.2),((y8.1.1.2.2.2.2.1.1,y8.1.1.2.2.2.2.1.2),(y8.1.1.2.2.2.2.2.1,(y8.1.1.2.2.2.2.2.2.1,y8.1.1.2.2.2.2.2.2.2))))))) (1:Int)).bind fun y17=>(g21 ((y17.2.1.1.1,(y8.1.1.1.2.1,y17.2.1.1.2.2)),(y8.1.1.2.1,(y8.1.1.2.2.1,((y8.1.1.2.2.2.1.1,y17.2.1.2.2.2.1.2),((y8.1.1.2.2.2.2.1.1,y17.2.1.2.2.2.2.1.2),(y8.1.1.2.2.2.2.2.1,(y8.1.1.2.2.2.2.2.2.1,y17.2.1.2.2.2.2.2.2.2))))))) (1:Int)).bind fun y18=>bif (decide (y18.1.1 < (0:Int))) then some ((false,()),()) else bif (y18.1.1 != y17.1.1) then some ((false,()),()) else (g12r x0).bind fun y19=>(g24r x2).bind fun y20=>(g25r (y19.1.1.1,(y19.1.1.2.1,(y19.1.1.2.2.1,(y19.1.1.2.2.2.1,(y19.1.1.2.2.2.2.1,(y19.1.1.2.2.2.2.2.1,(y19.1.1.2.2.2.2.2.2.1,y19.1.1.2.2.2.2.2.2.2))))))) x1 ((y20.1.1.1.1,(y20.1.1.1.2.1,y20.1.1.1.2.2)),(y20.1.1.2.1,(y20.1.1.2.2.1,((y20.1.1.2.2.2.1.1,y20.1.1.2.2.2.1.2),((y20.1.1.2.2.2.2.1.1,y20.1.1.2.2.2.2.1.2),(y20.1.1.2.2.2.2.2.1,(y20.1.1.2.2.2.2.2.2.1,y20.1.1.2.2.2.2.2.2.2))))))) x3 x4).bind fun y21=>(g15 ((y21.1.1.1.1,(y21.1.1.1.2.1,y21.1.1.1.2.2)),(y21.1.1.2.1,(y21.1.1.2.2.1,((y21.1.1.2.2.2.1.1,y21.1.1.2.2.2.1.2),((y21.1.1.2.2.2.2.1.1,y21.1.1.2.2.2.2.1.2),(y21.1.1.2.2.2.2.2.1,(y21.1.1.2.2.2.2.2.2.1,y21.1.1.2.2.2.2.2.2.2))))))) ((y5.1.1.1.1,(y5.1.1.1.2.1,y5.1.1.1.2.2)),(y5.1.1.2.1,(y5.1.1.2.2.1,((y5.1.1.2.2.2.1.1,y5.1.1.2.2.2.1.2),((y5.1.1.2.2.2.2.1.1,y5.1.1.2.2.2.2.1.2),(y5.1.1.2.2.2.2.2.1,(y5.1.1.2.2.2.2.2.2.1,y5.1.1.2.2.2.2.2.2.2)))))))).bind fun y22=>bif (!y22.1.1) then some ((false,()),()) else bif (!(y21.1.2.1 == y5.1.2.1)) then some ((false,()),()) else (g21 ((y17.2.1.1.1,(y8.1.1.1.2.1,y17.2.1.1.2.2)),(y8.1.1.2.1,(y8.1.1.2.2.1,((y8.1.1.2.2.2.1.1,y17.2.1.2.2.2.1.2),((y8.1.1.2.2.2.2.1.1,y17.2.1.2.2.2.2.1.2),(y8.1.1.2.2.2.2.2.1,(y8.1.1.2.2.2.2.2.2.1,y17.2.1.2.2.2.2.2.2.2))))))) (1:Int)).bind fun y23=>bif (decide (y23.1.1 < (0:Int))) then some ((false,()),()) else bif (y23.1.1 != y17.1.1) then some ((false,()),()) else some ((true,()),())
noncomputable def c4:Ctr:={ ins:=[.v Ty370,.v (.int .i64),.v Ty371,.v (.int .i64),.v (.int .u32)],out:=[.bool],F:=fun x=>g4 x.1 x.2.1 x.2.2.1 x.2.2.2.1 x.2.2.2.2.1 }
theorem o4:Holds Tryz.prog 4 c4:=f0 t4 Tryz.func4 (tc o9 (tc o22 (tc o12r (tc o24r (tc o23r (tc o25r (tc o15 (tc o16 (tc o18w (tc o20w (tc o21 tn)))))))))))
end Go.VE.VFnExactPartInput
