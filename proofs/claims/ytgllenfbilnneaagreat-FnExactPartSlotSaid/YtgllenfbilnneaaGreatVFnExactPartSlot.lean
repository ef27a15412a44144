import Derived.Test.YtgllenfbilnneaaGreatVFnExactPartSlotP0
/- More of what the functions do that laws.FnExactPartSlot reaches, and that they do it. -/
set_option linter.unusedVariables false
set_option linter.unusedSimpArgs false
namespace Go.VE.VFnExactPartSlot
open Go.Proofs Go.VE
noncomputable def t189:Tbl:=[(254,[],c254),(255,[],c255),(256,[],c256),(257,[],c257),(109,[],c109),(258,[],c258)]
abbrev h189_L0:Shape:={ slots:=[(1,.v (.int .i64)),(3,.bx 3 0),(5,.bx 5 0),(39,.v Ty177),(40,.v (.int .i64)),(41,.v (.int .i64))],boxes:=[(3,.typ Ty379),(5,.typ Ty380)] }
abbrev e189_L0:List (XT×Shape):=[(.ret,{ slots:=[(6,.v .bool)],boxes:=[] }),(.exit 0,{ slots:=[(1,.v (.int .i64)),(3,.bx 3 0),(5,.bx 5 0)],boxes:=[(3,.typ Ty379),(5,.typ Ty380)] })]
noncomputable def q189_L0 (t1:Int) (t39:Ta39) (t40:Int) (t41:Int) (b3:Ta339) (b5:Ta357):Option (((Int×(Unit×(Unit×Ta105)))×Ta370)⊕(((Bool×Unit)×Unit)⊕(((Int×(Unit×(Unit×Unit)))×Ta370)⊕Empty))) :=
bif (decide (t41 < t40)) then bif (decide (0≤t41)&&decide (t41 < (t39.len:Int))) then bif (decide (0≤t41)&&decide (t41 < (b5.2.2.2.2.2.2.2.2.1.len:Int))) then bif (decide (0≤t41)&&decide (t41 < (b5.2.2.2.2.2.2.2.2.2.1.len:Int))) then (g254 b3 t1 t41).bind fun y1=>bif y1.1.1 then bif (!(f255 (L.get t39 t41.toNat) (L.get b5.2.2.2.2.2.2.2.2.1 t41.toNat))) then some (.inr (.inl ((false,()),()))) else (g254 b3 t1 t41).bind fun y2=>bif (!y2.1.1) then bif ((L.get b5.2.2.2.2.2.2.2.2.1 t41.toNat).1 != (0:Int)) then some (.inr (.inl ((false,()),()))) else bif (decide (((L.get b5.2.2.2.2.2.2.2.2.1 t41.toNat).2.1.len:Int) > (0:Int))) then some (.inr (.inl ((false,()),()))) else (g256 b3 t1 t41).bind fun y3=>bif y3.1.1 then bif (!(f257 (L.get t39 t41.toNat) (L.get b5.2.2.2.2.2.2.2.2.2.1 t41.toNat))) then some (.inr (.inl ((false,()),()))) else (g256 b3 t1 t41).bind fun y4=>bif (!y4.1.1) then bif (decide (((L.get b5.2.2.2.2.2.2.2.2.2.1 t41.toNat).1.len:Int) > (0:Int))) then some (.inr (.inl ((false,()),()))) else some (.inl ((t1,((),((),(t39,(t40,((wI (t41 + (1:Int))),())))))),(b3,(b5,())))) else some (.inl ((t1,((),((),(t39,(t40,((wI (t41 + (1:Int))),())))))),(b3,(b5,())))) else (g256 b3 t1 t41).bind fun y5=>bif (!y5.1.1) then bif (decide (((L.get b5.2.2.2.2.2.2.2.2.2.1 t41.toNat).1.len:Int) > (0:Int))) then some (.inr (.inl ((false,()),()))) else some (.inl ((t1,((),((),(t39,(t40,((wI (t41 + (1:Int))),())))))),(b3,(b5,())))) else some (.inl ((t1,((),((),(t39,(t40,((wI (t41 + (1:Int))),())))))),(b3,(b5,())))) else (g256 b3 t1 t41).bind fun y6=>bif y6.1.1 then bif (!(f257 (L.get t39 t41.toNat) (L.get b5.2.2.2.2.2.2.2.2.2.1 t41.toNat))) then some (.inr (.inl ((false,()),()))) else (g256 b3 t1 t41).bind fun y7=>bif (!y7.1.1) then bif (decide (((L.get b5.2.2.2.2.2.2.2.2.2.1 t41.toNat).1.len:Int) > (0:Int))) then some (.inr (.inl ((false,()),()))) else some (.inl ((t1,((),((),(t39,(t40,((wI (t41 + (1:Int))),())))))),(b3,(b5,())))) else some (.inl ((t1,((),((),(t39,(t40,((wI (t41 + (1:Int))),())))))),(b3,(b5,())))) else (g256 b3 t1 t41).bind fun y8=>bif (!y8.1.1) then bif (decide (((L.get b5.2.2.2.2.2.2.2.2.2.1 t41.toNat).1.len:Int) > (0:Int))) then some (.inr (.inl ((false,()),()))) else some (.inl ((t1,((),((),(t39,(t40,((wI (t41 + (1:Int))),())))))),(b3,(b5,())))) else some (.inl ((t1,((),((),(t39,(t40,((wI (t41 + (1:Int))),())))))),(b3,(b5,())))) else (g254 b3 t1 t41).bind fun y9=>bif (!y9.1.1) then bif ((L.get b5.2.2.2.2.2.2.2.2.1 t41.toNat).1 != (0:Int)) then some (.inr (.inl ((false,()),()))) else bif (decide (((L.get b5.2.2.2.2.2.2.2.2.1 t41.toNat).2.1.len:Int) > (0:Int))) then some (.inr (.inl ((false,()),()))) else (g256 b3 t1 t41).bind fun y10=>bif y10.1.1 then bif (!(f257 (L.get t39 t41.toNat) (L.get b5.2.2.2.2.2.2.2.2.2.1 t41.toNat))) then some (.inr (.inl ((false,()),()))) else (g256 b3 t1 t41).bind fun y11=>bif (!y11.1.1) then bif (decide (((L.get b5.2.2.2.2.2.2.2.2.2.1 t41.toNat).1.len:Int) > (0:Int))) then some (.inr (.inl ((false,()),()))) else some (.inl ((t1,((),((),(t39,(t40,((wI (t41 + (1:Int))),())))))),(b3,(b5,())))) else some (.inl ((t1,((),((),(t39,(t40,((wI (t41 + (1:Int))),())))))),(b3,(b5,())))) else (g256 b3 t1 t41).bind fun y12=>bif (!y12.1.1) then bif (decide (((L.get b5.2.2.2.2.2.2.2.2.2.1 t41.toNat).1.len:Int) > (0:Int))) then some (.inr (.inl ((false,()),()))) else some (.inl ((t1,((),((),(t39,(t40,((wI (t41 + (1:Int))),())))))),(b3,(b5,())))) else some (.inl ((t1,((),((),(t39,(t40,((wI (t41 + (1:Int))),())))))),(b3,(b5,())))) else (g256 b3 t1 t41).bind fun y13=>bif y13.1.1 then bif (!(f257 (L.get t39 t41.toNat) (L.get b5.2.2.2.2.2.2.2.2.2.1 t41.toNat))) then some (.inr (.inl ((false,()),()))) else (g256 b3 t1 t41).bind fun y14=>bif (!y14.1.1) then bif (decide (((L.get b5.2.2.2.2.2.2.2.2.2.1 t41.toNat).1.len:Int) > (0:Int))) then some (.inr (.inl ((false,()),()))) else some (.inl ((t1,((),((),(t39,(t40,((wI (t41 + (1:Int))),())))))),(b3,(b5,())))) else some (.inl ((t1,((),((),(t39,(t40,((wI (t41 + (1:Int))),())))))),(b3,(b5,())))) else (g256 b3 t1 t41).bind fun y15=>bif (!y15.1.1) then bif (decide (((L.get b5.2.2.2.2.2.2.2.2.2.1 t41.toNat).1.len:Int) > (0:Int))) then some (.inr (.inl ((false,()),()))) else some (.inl ((t1,((),((),(t39,(t40,((wI (t41 + (1:Int))),())))))),(b3,(b5,())))) else some (.inl ((t1,((),((),(t39,(t40,((wI (t41 + (1:Int))),())))))),(b3,(b5,())))) else none else none else none else some (.inr (.inr (.inl ((t1,((),((),()))),(b3,(b5,()))))))
noncomputable def s189_L0 (x:((Int×(Unit×(Unit×Ta105)))×Ta370)):=q189_L0 x.1.1 x.1.2.2.2.1 x.1.2.2.2.2.1 x.1.2.2.2.2.2.1 x.2.1 x.2.2.1
abbrev h189_L2:Shape:={ slots:=[(1,.v (.int .i64)),(3,.bx 3 0),(109,.v Ty131),(110,.v (.int .i64)),(111,.v (.int .i64))],boxes:=[(3,.typ Ty379)] }
abbrev e189_L2:List (XT×Shape):=[(.ret,{ slots:=[(6,.v .bool)],boxes:=[] }),(.exit 2,{ slots:=[],boxes:=[] })]
noncomputable def q189_L2 (t1:Int) (t109:Ta20) (t110:Int) (t111:Int) (b3:Ta339):Option (((Int×(Unit×Ta90))×Ta344)⊕(((Bool×Unit)×Unit)⊕((Unit×Unit)⊕Empty))) :=
bif (decide (t111 < t110)) then bif (decide (0≤t111)&&decide (t111 < (t109.len:Int))) then (g109 b3 t1 t111).bind fun y17=>bif y17.1.1 then bif (!(f258 (L.get t109 t111.toNat))) then some (.inr (.inl ((false,()),()))) else (g109 b3 t1 t111).bind fun y18=>bif (!y18.1.1) then bif (decide ((wI (((L.get t109 t111.toNat).1.len:Int) + ((L.get t109 t111.toNat).2.1.len:Int))) > (0:Int))) then some (.inr (.inl ((false,()),()))) else some (.inl ((t1,((),(t109,(t110,((wI (t111 + (1:Int))),()))))),(b3,()))) else some (.inl ((t1,((),(t109,(t110,((wI (t111 + (1:Int))),()))))),(b3,()))) else (g109 b3 t1 t111).bind fun y19=>bif (!y19.1.1) then bif (decide ((wI (((L.get t109 t111.toNat).1.len:Int) + ((L.get t109 t111.toNat).2.1.len:Int))) > (0:Int))) then some (.inr (.inl ((false,()),()))) else some (.inl ((t1,((),(t109,(t110,((wI (t111 + (1:Int))),()))))),(b3,()))) else some (.inl ((t1,((),(t109,(t110,((wI (t111 + (1:Int))),()))))),(b3,()))) else none else some (.inr (.inr (.inl ((),()))))
noncomputable def s189_L2 (x:((Int×(Unit×Ta90))×Ta344)):=q189_L2 x.1.1 x.1.2.2.1 x.1.2.2.2.1 x.1.2.2.2.2.1 x.2.1
noncomputable def a189:Nat→Option LoopAnn:=fun c=>bif Nat.beq c 0 then some (.fix h189_L0 e189_L0 s189_L0) else bif Nat.beq c 2 then some (.fix h189_L2 e189_L2 s189_L2) else none
noncomputable def g189 (x0:Ta339) (x1:Int) (x2:Ta357):Option ((Bool×Unit)×Unit) :=
bif ((x2.2.2.2.2.2.2.2.2.1.len:Int) != (x0.2.2.2.2.2.2.2.2.2.1.len:Int)) then some ((false,()),()) else bif ((x2.2.2.2.2.2.2.2.2.2.1.len:Int) != (x0.2.2.2.2.2.2.2.2.2.1.len:Int)) then some ((false,()),()) else bif ((x2.2.2.2.2.2.2.2.2.2.2.1.len:Int) != (x0.2.2.2.2.2.2.2.2.1.len:Int)) then some ((false,()),()) else (fixO s189_L0 ((x1,((),((),(x0.2.2.2.2.2.2.2.2.2.1,((x0.2.2.2.2.2.2.2.2.2.1.len:Int),((0:Int),())))))),(x0,(x2,())))).bind fun d22=>match d22 with | .inl y16=>some ((y16.1.1,()),()) | .inr (.inl y16)=>((fixO s189_L2 ((y16.1.1,((),(y16.2.2.1.2.2.2.2.2.2.2.2.2.2.1,((y16.2.2.1.2.2.2.2.2.2.2.2.2.2.1.len:Int),((0:Int),()))))),(y16.2.1,()))).bind fun d21=>match d21 with | .inl y20=>some ((y20.1.1,()),()) | .inr (.inl y20)=>some ((true,()),()) | .inr (.inr e)=>nomatch e) | .inr (.inr e)=>nomatch e
noncomputable def c189:Ctr:={ ins:=[.v Ty379,.v (.int .i64),.v Ty380],out:=[.bool],F:=fun x=>g189 x.1 x.2.1 x.2.2.1 }
noncomputable def l189:List (Nat×Code):=loopsIn (Tryz.f189.body.getD .skip) 0
theorem w189_L0:LW t189 a189 l189 0 0 h189_L0 e189_L0 s189_L0:=fun x=>by kernel_rfl
theorem w189_L2:LW t189 a189 l189 1 2 h189_L2 e189_L2 s189_L2:=fun x=>by kernel_rfl
theorem o189:Holds Tryz.prog 189 c189:=fh t189 a189 Tryz.func189 [(0,lg l189 0),(2,lg l189 1)] ⟨fun x d h=>(w189_L0 x).trans h,fun x d h=>(w189_L2 x).trans h,trivial⟩ (tc o254 (tc o255 (tc o256 (tc o257 (tc o109 (tc o258 tn))))))
noncomputable def t108:Tbl:=[(54,[],c54),(55,[],c55),(186,[],c186),(187,[],c187),(124,[],c124),(188,[],c188),(136,[],c136),(189,[],c189)]
noncomputable def g108 (x0:Ta339) (x1:Int) (x2:Ta357):Option ((Bool×Unit)×Unit) :=
(g54 x0).bind fun y1=>bif (!y1.1.1) then some ((false,()),()) else (g55 x0 x1 x2.2.2.2.2.2.2.2.1).bind fun y2=>bif (!y2.1.1) then some ((false,()),()) else bif (decide (0≤x1)&&decide (x1 < (x0.2.2.2.2.2.2.2.1.len:Int))) then (g186 (L.get x0.2.2.2.2.2.2.2.1 x1.toNat).2.2.2.1 x2.1).bind fun y3=>bif (!y3.1.1) then some ((false,()),()) else bif (!(f187 x2.2.2.1)) then some ((false,()),()) else (g124 x2.2.2.2.1).bind fun y4=>bif (!y4.1.1) then some ((false,()),()) else bif (!((x2.2.2.2.1.1.1 == x0.2.1.1)&&((x2.2.2.2.1.1.2.1 == x0.2.1.2.1)&&((x2.2.2.2.1.1.2.2.1 == x0.2.1.2.2.1)&&true)))) then some ((false,()),()) else (g188 x2.2.2.2.2.1).bind fun y5=>bif (!y5.1.1) then some ((false,()),()) else bif (x2.2.2.2.2.1.1 != x0.2.2.1) then some ((false,()),()) else bif (!(f136 x2.2.2.2.2.2.1 (0:Int) (100000:Int))) then some ((false,()),()) else (g189 x0 x1 x2).bind fun y6=>some ((y6.1.1,()),()) else none
noncomputable def c108:Ctr:={ ins:=[.v Ty379,.v (.int .i64),.v Ty380],out:=[.bool],F:=fun x=>g108 x.1 x.2.1 x.2.2.1 }
theorem o108:Holds Tryz.prog 108 c108:=f0 t108 Tryz.func108 (tc o54 (tc o55 (tc o186 (tc o187 (tc o124 (tc o188 (tc o136 (tc o189 tn))))))))
noncomputable def t115:Tbl:=[(136,[],c136)]
noncomputable def g115 (x0:Int):Option ((Bool×Unit)×Unit) :=
some (((f136 x0 (0:Int) (50000:Int)),()),())
noncomputable def f115 (x0:Int):Bool :=
(f136 x0 (0:Int) (50000:Int))
theorem n115 (x0:Int):g115 x0 = some ((f115 x0,()),()):=by simp only [g115,f115,pull1]
noncomputable def c115:Ctr:={ ins:=[.v (.int .i64)],out:=[.bool],F:=fun x=>some ((f115 x.1,()),()) }
theorem o115:Holds Tryz.prog 115 c115:=f0T t115 (fun x=>g115 x.1) Tryz.func115 (tc o136 tn) (fun x=>n115 x.1)
noncomputable def t197r:Tbl:=[]
noncomputable def g197r (x0:(L Int)):Option (((L Int)×Unit)×Unit) :=
bif x0.nil then some (((nilL (.int .u32)),()),()) else bif (decide ((L.of (Ty.zero (.int .u32)) []).len + x0.len≤most)) then some (((L.app (L.of (Ty.zero (.int .u32)) []) x0),()),()) else none
noncomputable def c197r:Ctr:={ ins:=[.v (.sl (.int .u32))],out:=[(.sl (.int .u32))],F:=fun x=>g197r x.1,fr:=1 }
theorem o197r:Holds Tryz.prog 197 c197r:=f0 t197r Tryz.func197 tn
noncomputable def t241r:Tbl:=[]
noncomputable def g241r (x0:(L Int)):Option (((L Int)×Unit)×Unit) :=
bif x0.nil then some (((nilL (.int .u8)),()),()) else bif (decide ((L.of (Ty.zero (.int .u8)) []).len + x0.len≤most)) then some (((L.app (L.of (Ty.zero (.int .u8)) []) x0),()),()) else none
noncomputable def c241r:Ctr:={ ins:=[.v (.sl (.int .u8))],out:=[(.sl (.int .u8))],F:=fun x=>g241r x.1,fr:=1 }
theorem o241r:Holds Tryz.prog 241 c241r:=f0 t241r Tryz.func241 tn
noncomputable def t190r:Tbl:=[(197,[],c197r),(241,[],c241r)]
abbrev h190r_L0:Shape:={ slots:=[(2,.bx 2 0),(3,.bx 3 0),(13,.v (.sl (.sl (.int .u8)))),(14,.v (.int .i64)),(15,.v (.int .i64))],boxes:=[(2,.cells [.row (.int .u32) 60128,.v (.int .u32),.row (.sl (.int .u8)) 60130]),(3,.cells [.ms 1000512,.v (.int .u32),.row (.sl (.int .u8)) 60194]),(1000512,.row (.int .u32))] }
abbrev e190r_L0:List (XT×Shape):=[(.exit 0,{ slots:=[(2,.bx 2 0),(3,.bx 3 0)],boxes:=[(2,.cells [.ms 60128,.v (.int .u32),.ms 60130]),(3,.cells [.ms 1000512,.v (.int .u32),.ms 60194]),(60128,.row (.int .u32)),(60130,.row (.sl (.int .u8))),(1000512,.row (.int .u32)),(60194,.row (.sl (.int .u8)))] })]
noncomputable def q190r_L0 (t13:(L (L Int))) (t14:Int) (t15:Int) (b2_0:(L Int)) (b2_1:Int) (b2_2:(L (L Int))) (b3_1:Int) (b3_2:(L (L Int))) (r1000512:(L Int)):Option (((Unit×Ta56)×(Ta46×((Unit×Ta0)×((L Int)×Unit))))⊕(((Unit×(Unit×Unit))×((Unit×(Int×(Unit×Unit)))×((Unit×(Int×(Unit×Unit)))×((L Int)×((L (L Int))×Ta23)))))⊕Empty)) :=
bif (decide (t15 < t14)) then bif (decide (0≤t15)&&decide (t15 < (t13.len:Int))) then (g241r (L.get t13 t15.toNat)).bind fun y2=>bif (decide (b3_2.len + (L.of (Ty.zero (.sl (.int .u8))) [y2.1.1]).len≤most)) then some (.inl (((),((),(t13,(t14,((wI (t15 + (1:Int))),()))))),((b2_0,(b2_1,(b2_2,()))),(((),(b3_1,((L.app b3_2 (L.of (Ty.zero (.sl (.int .u8))) [y2.1.1])),()))),(r1000512,()))))) else none else none else some (.inr (.inl (((),((),())),(((),(b2_1,((),()))),(((),(b3_1,((),()))),(b2_0,(b2_2,(r1000512,(b3_2,())))))))))
noncomputable def s190r_L0 (x:((Unit×Ta56)×(Ta46×((Unit×Ta0)×((L Int)×Unit))))):=q190r_L0 x.1.2.2.1 x.1.2.2.2.1 x.1.2.2.2.2.1 x.2.1.1 x.2.1.2.1 x.2.1.2.2.1 x.2.2.1.2.1 x.2.2.1.2.2.1 x.2.2.2.1
noncomputable def a190r:Nat→Option LoopAnn:=fun c=>bif Nat.beq c 0 then some (.fix h190r_L0 e190r_L0 s190r_L0) else none
noncomputable def g190r (x0:Ta46):Option Ta95 :=
(g197r x0.1).bind fun y1=>(fixO s190r_L0 (((),((),(x0.2.2.1,((x0.2.2.1.len:Int),((0:Int),()))))),(((nilL (.int .u32)),((0:Int),((nilL (.sl (.int .u8))),()))),(((),(x0.2.1,((nilL (.sl (.int .u8))),()))),y1.1)))).bind fun d4=>match d4 with | .inl y3=>some (((y3.2.2.2.2.2.1,(y3.2.2.1.2.1,y3.2.2.2.2.2.2)),()),()) | .inr e=>nomatch e
noncomputable def c190r:Ctr:={ ins:=[.v Ty162],out:=[Ty162],F:=fun x=>g190r x.1,fr:=1 }
noncomputable def l190r:List (Nat×Code):=loopsIn (Tryz.f190.body.getD .skip) 0
theorem w190r_L0:LW t190r a190r l190r 0 0 h190r_L0 e190r_L0 s190r_L0:=fun x=>by kernel_rfl
theorem o190r:Holds Tryz.prog 190 c190r:=fh t190r a190r Tryz.func190 [(0,lg l190r 0)] ⟨fun x d h=>(w190r_L0 x).trans h,trivial⟩ (tc o197r (tc o241r tn))
noncomputable def t259r:Tbl:=[]
noncomputable def g259r (x0:(L (Int×(Bool×Unit)))):Option (Ta22×Unit) :=
bif x0.nil then some (((nilL Ty61),()),()) else bif (decide ((L.of (Ty.zero Ty61) []).len + x0.len≤most)) then some (((L.app (L.of (Ty.zero Ty61) []) x0),()),()) else none
noncomputable def c259r:Ctr:={ ins:=[.v Ty80],out:=[Ty80],F:=fun x=>g259r x.1,fr:=1 }
theorem o259r:Holds Tryz.prog 259 c259r:=f0 t259r Tryz.func259 tn
noncomputable def t191r:Tbl:=[(259,[],c259r)]
abbrev h191r_L0:Shape:={ slots:=[(2,.bx 2 0),(3,.bx 3 0),(10,.v Ty101),(11,.v (.int .i64)),(12,.v (.int .i64))],boxes:=[(2,.cells [.v (.int .i64),.v (.int .i64),.v (.int .i64),.row Ty80 60131]),(3,.cells [.v (.int .i64),.v (.int .i64),.v (.int .i64),.row Ty80 60195])] }
abbrev e191r_L0:List (XT×Shape):=[(.exit 0,{ slots:=[(2,.bx 2 0),(3,.bx 3 0)],boxes:=[(2,.cells [.v (.int .i64),.v (.int .i64),.v (.int .i64),.ms 60131]),(3,.cells [.v (.int .i64),.v (.int .i64),.v (.int .i64),.ms 60195]),(60131,.row Ty80),(60195,.row Ty80)] })]
noncomputable def q191r_L0 (t10:Ta7) (t11:Int) (t12:Int) (b2_0:Int) (b2_1:Int) (b2_2:Int) (b2_3:Ta7) (b3_0:Int) (b3_1:Int) (b3_2:Int) (b3_3:Ta7):Option (((Unit×Ta106)×Ta201)⊕(((Unit×(Unit×Unit))×(Ta26×(Ta26×(Ta7×Ta40))))⊕Empty)) :=
bif (decide (t12 < t11)) then bif (decide (0≤t12)&&decide (t12 < (t10.len:Int))) then (g259r (L.get t10 t12.toNat)).bind fun y1=>bif (decide (b3_3.len + (L.of (Ty.zero Ty80) [y1.1.1]).len≤most)) then some (.inl (((),((),(t10,(t11,((wI (t12 + (1:Int))),()))))),((b2_0,(b2_1,(b2_2,(b2_3,())))),((b3_0,(b3_1,(b3_2,((L.app b3_3 (L.of (Ty.zero Ty80) [y1.1.1])),())))),())))) else none else none else some (.inr (.inl (((),((),())),((b2_0,(b2_1,(b2_2,((),())))),((b3_0,(b3_1,(b3_2,((),())))),(b2_3,(b3_3,())))))))
noncomputable def s191r_L0 (x:((Unit×Ta106)×Ta201)):=q191r_L0 x.1.2.2.1 x.1.2.2.2.1 x.1.2.2.2.2.1 x.2.1.1 x.2.1.2.1 x.2.1.2.2.1 x.2.1.2.2.2.1 x.2.2.1.1 x.2.2.1.2.1 x.2.2.1.2.2.1 x.2.2.1.2.2.2.1
noncomputable def a191r:Nat→Option LoopAnn:=fun c=>bif Nat.beq c 0 then some (.fix h191r_L0 e191r_L0 s191r_L0) else none
noncomputable def g191r (x0:Ta122):Option Ta146 :=
(fixO s191r_L0 (((),((),(x0.2.1,((x0.2.1.len:Int),((0:Int),()))))),(((0:Int),((0:Int),((0:Int),((nilL Ty80),())))),((x0.1.1,(x0.1.2.1,(x0.1.2.2.1,((nilL Ty80),())))),())))).bind fun d3=>match d3 with | .inl y2=>some ((((y2.2.2.1.1,(y2.2.2.1.2.1,(y2.2.2.1.2.2.1,()))),y2.2.2.2.2),()),()) | .inr e=>nomatch e
noncomputable def c191r:Ctr:={ ins:=[.v Ty234],out:=[Ty234],F:=fun x=>g191r x.1,fr:=1 }
noncomputable def l191r:List (Nat×Code):=loopsIn (Tryz.f191.body.getD .skip) 0
theorem w191r_L0:LW t191r a191r l191r 0 0 h191r_L0 e191r_L0 s191r_L0:=fun x=>by kernel_rfl
theorem o191r:Holds Tryz.prog 191 c191r:=fh t191r a191r Tryz.func191 [(0,lg l191r 0)] ⟨fun x d h=>(w191r_L0 x).trans h,trivial⟩ (tc o259r tn)
noncomputable def t150r:Tbl:=[(241,[],c241r)]
abbrev h150r_L0:Shape:={ slots:=[(3,.row (.sl (.int .u8)) 50003),(6,.v (.sl (.sl (.int .u8)))),(7,.v (.int .i64)),(8,.v (.int .i64))],boxes:=[] }
abbrev e150r_L0:List (XT×Shape):=[(.exit 0,{ slots:=[(3,.ms 50003)],boxes:=[(50003,.row (.sl (.int .u8)))] })]
noncomputable def q150r_L0 (t3:(L (L Int))) (t6:(L (L Int))) (t7:Int) (t8:Int):Option ((((L (L Int))×Ta28)×Unit)⊕(Ta41⊕Empty)) :=
bif (decide (t8 < t7)) then bif (decide (0≤t8)&&decide (t8 < (t6.len:Int))) then (g241r (L.get t6 t8.toNat)).bind fun y1=>bif (decide (t3.len + (L.of (Ty.zero (.sl (.int .u8))) [y1.1.1]).len≤most)) then some (.inl (((L.app t3 (L.of (Ty.zero (.sl (.int .u8))) [y1.1.1])),(t6,(t7,((wI (t8 + (1:Int))),())))),())) else none else none else some (.inr (.inl (((),()),(t3,()))))
noncomputable def s150r_L0 (x:(((L (L Int))×Ta28)×Unit)):=q150r_L0 x.1.1 x.1.2.1 x.1.2.2.1 x.1.2.2.2.1
noncomputable def a150r:Nat→Option LoopAnn:=fun c=>bif Nat.beq c 0 then some (.fix h150r_L0 e150r_L0 s150r_L0) else none
noncomputable def g150r (x0:(L (L Int))):Option Ta9 :=
(fixO s150r_L0 (((nilL (.sl (.int .u8))),(x0,((x0.len:Int),((0:Int),())))),())).bind fun d3=>match d3 with | .inl y2=>some ((y2.2.1,()),()) | .inr e=>nomatch e
noncomputable def c150r:Ctr:={ ins:=[.v (.sl (.sl (.int .u8)))],out:=[(.sl (.sl (.int .u8)))],F:=fun x=>g150r x.1,fr:=1 }
noncomputable def l150r:List (Nat×Code):=loopsIn (Tryz.f150.body.getD .skip) 0
theorem w150r_L0:LW t150r a150r l150r 0 0 h150r_L0 e150r_L0 s150r_L0:=fun x=>by kernel_rfl
theorem o150r:Holds Tryz.prog 150 c150r:=fh t150r a150r Tryz.func150 [(0,lg l150r 0)] ⟨fun x d h=>(w150r_L0 x).trans h,trivial⟩ (tc o241r tn)
noncomputable def t192r:Tbl:=[]
noncomputable def g192r (x0:(L Int)):Option (((L Int)×Unit)×Unit) :=
bif x0.nil then some (((nilL (.int .i64)),()),()) else bif (decide ((L.of (Ty.zero (.int .i64)) []).len + x0.len≤most)) then some (((L.app (L.of (Ty.zero (.int .i64)) []) x0),()),()) else none
noncomputable def c192r:Ctr:={ ins:=[.v (.sl (.int .i64))],out:=[(.sl (.int .i64))],F:=fun x=>g192r x.1,fr:=1 }
theorem o192r:Holds Tryz.prog 192 c192r:=f0 t192r Tryz.func192 tn
noncomputable def t193w:Tbl:=[]
noncomputable def g193w (x0:Ta1):Option (Ta36×Unit) :=
bif x0.nil then some (((nilL Ty100),()),()) else bif (decide ((L.of (Ty.zero Ty100) []).len + x0.len≤most)) then some (((L.app (L.of (Ty.zero Ty100) []) x0),()),()) else none
noncomputable def c193w:Ctr:={ ins:=[.v Ty123],out:=[Ty123],F:=fun x=>g193w x.1,fr:=2 }
theorem o193w:Holds Tryz.prog 193 c193w:=f0 t193w Tryz.func193 tn
noncomputable def t194w:Tbl:=[]
noncomputable def g194w (x0:(L ((L Int)×Unit))):Option (Ta10×Unit) :=
bif x0.nil then some (((nilL Ty33),()),()) else bif (decide ((L.of (Ty.zero Ty33) []).len + x0.len≤most)) then some (((L.app (L.of (Ty.zero Ty33) []) x0),()),()) else none
noncomputable def c194w:Ctr:={ ins:=[.v Ty54],out:=[Ty54],F:=fun x=>g194w x.1,fr:=2 }
theorem o194w:Holds Tryz.prog 194 c194w:=f0 t194w Tryz.func194 tn
noncomputable def t195w:Tbl:=[]
noncomputable def g195w (x0:Ta20):Option (Ta49×Unit) :=
bif x0.nil then some (((nilL Ty121),()),()) else bif (decide ((L.of (Ty.zero Ty121) []).len + x0.len≤most)) then some (((L.app (L.of (Ty.zero Ty121) []) x0),()),()) else none
noncomputable def c195w:Ctr:={ ins:=[.v Ty131],out:=[Ty131],F:=fun x=>g195w x.1,fr:=2 }
theorem o195w:Holds Tryz.prog 195 c195w:=f0 t195w Tryz.func195 tn
noncomputable def t196r:Tbl:=[(197,[],c197r)]
noncomputable def g196r (x0:(Int×((L Int)×Unit))):Option Ta47 :=
(g197r x0.2.1).bind fun y1=>some (((x0.1,y1.1),()),())
noncomputable def c196r:Ctr:={ ins:=[.v Ty100],out:=[Ty100],F:=fun x=>g196r x.1,fr:=1 }
theorem o196r:Holds Tryz.prog 196 c196r:=f0 t196r Tryz.func196 (tc o197r tn)
noncomputable def t198r:Tbl:=[(197,[],c197r)]
noncomputable def g198r (x0:Ta2):Option Ta59 :=
(g197r x0.1).bind fun y1=>(g197r x0.2.1).bind fun y2=>some (((y1.1.1,y2.1),()),())
noncomputable def c198r:Ctr:={ ins:=[.v Ty121],out:=[Ty121],F:=fun x=>g198r x.1,fr:=1 }
theorem o198r:Holds Tryz.prog 198 c198r:=f0 t198r Tryz.func198 (tc o197r tn)
noncomputable def t110r:Tbl:=[(190,[],c190r),(191,[],c191r),(150,[],c150r),(192,[],c192r),(193,[],c193w),(194,[],c194w),(195,[],c195w),(196,[],c196r),(197,[],c197r),(198,[],c198r)]
abbrev h110r_L0:Shape:={ slots:=[(1,.bx 1 0),(2,.bx 2 0),(3,.ms 1001920),(4,.ms 1002112),(5,.ms 1002304),(37,.ms 1001920),(38,.v (.int .i64)),(39,.v (.int .i64))],boxes:=[(1,.cells [.ms 1000768,.v (.int .u32),.ms 1000769,.v .bool,.v (.int .u32),.v (.int .u32),.v (.int .u32),.v (.int .u32),.v .bool,.v .bool,.v (.int .u32),.v (.int .i64),.v (.int .i64),.v (.int .i64),.v .bool,.v (.int .i64),.v (.int .i64),.v (.int .i64),.ms 1000960,.v (.int .i64),.ms 1001600,.v (.int .i64),.v .bool,.ms 1001152,.v Ty123,.v Ty54,.v Ty131]),(2,.cells [.row (.int .u32) 60128,.v (.int .u32),.row (.sl (.int .u8)) 60130,.v .bool,.v (.int .u32),.v (.int .u32),.v (.int .u32),.v (.int .u32),.v .bool,.v .bool,.v (.int .u32),.v (.int .i64),.v (.int .i64),.v (.int .i64),.v .bool,.v (.int .i64),.v (.int .i64),.v (.int .i64),.row Ty80 60146,.v (.int .i64),.row (.int .i64) 60148,.v (.int .i64),.v .bool,.row (.sl (.int .u8)) 60151,.row Ty100 60152,.row Ty33 60153,.row Ty121 60154]),(1001920,.msk Ty100),(1002112,.msk Ty33),(1002304,.msk Ty121),(1000768,.row (.int .u32)),(1000769,.row (.sl (.int .u8))),(1000960,.row Ty80),(1001600,.row (.int .i64)),(1001152,.row (.sl (.int .u8)))] }
abbrev e110r_L0:List (XT×Shape):=[(.exit 0,{ slots:=[(1,.bx 1 0),(2,.bx 2 0),(3,.ms 1001920),(4,.ms 1002112),(5,.ms 1002304)],boxes:=[(1,.cells [.ms 1000768,.v (.int .u32),.ms 1000769,.v .bool,.v (.int .u32),.v (.int .u32),.v (.int .u32),.v (.int .u32),.v .bool,.v .bool,.v (.int .u32),.v (.int .i64),.v (.int .i64),.v (.int .i64),.v .bool,.v (.int .i64),.v (.int .i64),.v (.int .i64),.ms 1000960,.v (.int .i64),.ms 1001600,.v (.int .i64),.v .bool,.ms 1001152,.v Ty123,.v Ty54,.v Ty131]),(2,.cells [.ms 60128,.v (.int .u32),.ms 60130,.v .bool,.v (.int .u32),.v (.int .u32),.v (.int .u32),.v (.int .u32),.v .bool,.v .bool,.v (.int .u32),.v (.int .i64),.v (.int .i64),.v (.int .i64),.v .bool,.v (.int .i64),.v (.int .i64),.v (.int .i64),.ms 60146,.v (.int .i64),.ms 60148,.v (.int .i64),.v .bool,.ms 60151,.ms 60152,.ms 60153,.ms 60154]),(1001920,.row Ty100),(1002112,.row Ty33),(1002304,.msk Ty121),(1000768,.row (.int .u32)),(1000769,.row (.sl (.int .u8))),(1000960,.row Ty80),(1001600,.row (.int .i64)),(1001152,.row (.sl (.int .u8))),(60128,.row (.int .u32)),(60130,.row (.sl (.int .u8))),(60146,.row Ty80),(60148,.row (.int .i64)),(60151,.row (.sl (.int .u8))),(60152,.row Ty100),(60153,.row Ty33),(60154,.row Ty121)] })]
noncomputable def q110r_L0 (t38:Int) (t39:Int) (b1_1:Int) (b1_3:Bool) (b1_4:Int) (b1_5:Int) (b1_6:Int) (b1_7:Int) (b1_8:Bool) (b1_9:Bool) (b1_10:Int) (b1_11:Int) (b1_12:Int) (b1_13:Int) (b1_14:Bool) (b1_15:Int) (b1_16:Int) (b1_17:Int) (b1_19:Int) (b1_21:Int) (b1_22:Bool) (b1_24:Ta1) (b1_25:(L ((L Int)×Unit))) (b1_26:Ta20) (b2_0:(L Int)) (b2_1:Int) (b2_2:(L (L Int))) (b2_3:Bool) (b2_4:Int) (b2_5:Int) (b2_6:Int) (b2_7:Int) (b2_8:Bool) (b2_9:Bool) (b2_10:Int) (b2_11:Int) (b2_12:Int) (b2_13:Int) (b2_14:Bool) (b2_15:Int) (b2_16:Int) (b2_17:Int) (b2_18:Ta7) (b2_19:Int) (b2_20:(L Int)) (b2_21:Int) (b2_22:Bool) (b2_23:(L (L Int))) (b2_24:Ta1) (b2_25:(L ((L Int)×Unit))) (b2_26:Ta20) (r1001920:Ta1) (m1001920:(Nat→Bool)) (r1002112:(L ((L Int)×Unit))) (m1002112:(Nat→Bool)) (r1002304:Ta20) (m1002304:(Nat→Bool)) (r1000768:(L Int)) (r1000769:(L (L Int))) (r1000960:Ta7) (r1001600:(L Int)) (r1001152:(L (L Int))):Option ((Ta127×(Ta330×(Ta347×((Ta1×(Nat→Bool))×(((L ((L Int)×Unit))×(Nat→Bool))×((Ta20×(Nat→Bool))×((L Int)×((L (L Int))×(Ta7×Ta23)))))))))⊕(((Unit×Ta42)×(Ta330×(Ta279×(Ta1×((L ((L Int)×Unit))×((Ta20×(Nat→Bool))×Ta329))))))⊕Empty)) :=
bif (decide (t39 < t38)) then bif (decide (0≤t39)&&decide (t39 < (r1001920.len:Int))) then (g196r ((L.get r1001920 t39.toNat).1,((L.get r1001920 t39.toNat).2.1,()))).bind fun y8=>bif (decide (0≤t39)&&decide (t39 < (r1001920.len:Int))) then bif (decide (0≤t39)&&decide (t39 < (r1002112.len:Int))) then (g197r (L.get r1002112 t39.toNat).1).bind fun y9=>bif (decide (0≤t39)&&decide (t39 < (r1002112.len:Int))) then some (.inl (((),((),((),((),((),((),(t38,((wI (t39 + (1:Int))),())))))))),(((),(b1_1,((),(b1_3,(b1_4,(b1_5,(b1_6,(b1_7,(b1_8,(b1_9,(b1_10,(b1_11,(b1_12,(b1_13,(b1_14,(b1_15,(b1_16,(b1_17,((),(b1_19,((),(b1_21,(b1_22,((),(b1_24,(b1_25,(b1_26,()))))))))))))))))))))))))))),((b2_0,(b2_1,(b2_2,(b2_3,(b2_4,(b2_5,(b2_6,(b2_7,(b2_8,(b2_9,(b2_10,(b2_11,(b2_12,(b2_13,(b2_14,(b2_15,(b2_16,(b2_17,(b2_18,(b2_19,(b2_20,(b2_21,(b2_22,(b2_23,(b2_24,(b2_25,(b2_26,()))))))))))))))))))))))))))),(((L.set r1001920 t39.toNat y8.1.1),(Go.VE.upd m1001920 t39.toNat true)),(((L.set r1002112 t39.toNat y9.1),(Go.VE.upd m1002112 t39.toNat true)),((r1002304,m1002304),(r1000768,(r1000769,(r1000960,(r1001600,(r1001152,())))))))))))) else none else none else none else none else om .inr (om .inl (om (fun y=>(((),((),((),((),((),()))))),y)) (om (fun y=>(((),(b1_1,((),(b1_3,(b1_4,(b1_5,(b1_6,(b1_7,(b1_8,(b1_9,(b1_10,(b1_11,(b1_12,(b1_13,(b1_14,(b1_15,(b1_16,(b1_17,((),(b1_19,((),(b1_21,(b1_22,((),(b1_24,(b1_25,(b1_26,()))))))))))))))))))))))))))),y)) (om (fun y=>(((),(b2_1,((),(b2_3,(b2_4,(b2_5,(b2_6,(b2_7,(b2_8,(b2_9,(b2_10,(b2_11,(b2_12,(b2_13,(b2_14,(b2_15,(b2_16,(b2_17,((),(b2_19,((),(b2_21,(b2_22,((),((),((),((),()))))))))))))))))))))))))))),y)) (bif (allOwn (some m1001920) r1001920.len) then (om (fun y=>(r1001920,y)) (bif (allOwn (some m1002112) r1002112.len) then some (r1002112,((r1002304,m1002304),(r1000768,(r1000769,(r1000960,(r1001600,(r1001152,(b2_0,(b2_2,(b2_18,(b2_20,(b2_23,(b2_24,(b2_25,(b2_26,()))))))))))))))) else none)) else none)))))
noncomputable def s110r_L0 (x:(Ta127×(Ta330×(Ta347×((Ta1×(Nat→Bool))×(((L ((L Int)×Unit))×(Nat→Bool))×((Ta20×(Nat→Bool))×((L Int)×((L (L Int))×(Ta7×Ta23)))))))))):=q110r_L0 x.1.2.2.2.2.2.2.1 x.1.2.2.2.2.2.2.2.1 x.2.1.2.1 x.2.1.2.2.2.1 x.2.1.2.2.2.2.1 x.2.1.2.2.2.2.2.1 x.2.1.2.2.2.2.2.2.1 x.2.1.2.2.2.2.2.2.2.1 x.2.1.2.2.2.2.2.2.2.2.1 x.2.1.2.2.2.2.2.2.2.2.2.1 x.2.1.2.2.2.2.2.2.2.2.2.2.1 x.2.1.2.2.2.2.2.2.2.2.2.2.2.1 x.2.1.2.2.2.2.2.2.2.2.2.2.2.2.1 x.2.1.2.2.2.2.2.2.2.2.2.2.2.2.2.1 x.2.1.2.2.2.2.2.2.2.2.2.2.2.2.2.2.1 x.2.1.2.2.2.2.2.2.2.2.2.2.2.2.2.2.2.1 x.2.1.2.2.2.2.2.2.2.2.2.2.2.2.2.2.2.2.1 x.2.1.2.2.2.2.2.2.2.2.2.2.2.2.2.2.2.2.2.1 x.2.1.2.2.2.2.2.2.2.2.2.2.2.2.2.2.2.2.2.2.2.1 x.2.1.2.2.2.2.2.2.2.2.2.2.2.2.2.2.2.2.2.2.2.2.2.1 x.2.1.2.2.2.2.2.2.2.2.2.2.2.2.2.2.2.2.2.2.2.2.2.2.1 x.2.1.2.2.2.2.2.2.2.2.2.2.2.2.2.2.2.2.2.2.2.2.2.2.2.2.1 x.2.1.2.2.2.2.2.2.2.2.2.2.2.2.2.2.2.2.2.2.2.2.2.2.2.2.2.1 x.2.1.2.2.2.2.2.2.2.2.2.2.2.2.2.2.2.2.2.2.2.2.2.2.2.2.2.2.1 x.2.2.1.1 x.2.2.1.2.1 x.2.2.1.2.2.1 x.2.2.1.2.2.2.1 x.2.2.1.2.2.2.2.1 x.2.2.1.2.2.2.2.2.1 x.2.2.1.2.2.2.2.2.2.1 x.2.2.1.2.2.2.2.2.2.2.1 x.2.2.1.2.2.2.2.2.2.2.2.1 x.2.2.1.2.2.2.2.2.2.2.2.2.1 x.2.2.1.2.2.2.2.2.2.2.2.2.2.1 x.2.2.1.2.2.2.2.2.2.2.2.2.2.2.1 x.2.2.1.2.2.2.2.2.2.2.2.2.2.2.2.1 x.2.2.1.2.2.2.2.2.2.2.2.2.2.2.2.2.1 x.2.2.1.2.2.2.2.2.2.2.2.2.2.2.2.2.2.1 x.2.2.1.2.2.2.2.2.2.2.2.2.2.2.2.2.2.2.1 x.2.2.1.2.2.2.2.2.2.2.2.2.2.2.2.2.2.2.2.1 x.2.2.1.2.2.2.2.2.2.2.2.2.2.2.2.2.2.2.2.2.1 x.2.2.1.2.2.2.2.2.2.2.2.2.2.2.2.2.2.2.2.2.2.1 x.2.2.1.2.2.2.2.2.2.2.2.2.2.2.2.2.2.2.2.2.2.2.1 x.2.2.1.2.2.2.2.2.2.2.2.2.2.2.2.2.2.2.2.2.2.2.2.1 x.2.2.1.2.2.2.2.2.2.2.2.2.2.2.2.2.2.2.2.2.2.2.2.2.1 x.2.2.1.2.2.2.2.2.2.2.2.2.2.2.2.2.2.2.2.2.2.2.2.2.2.1 x.2.2.1.2.2.2.2.2.2.2.2.2.2.2.2.2.2.2.2.2.2.2.2.2.2.2.1 x.2.2.1.2.2.2.2.2.2.2.2.2.2.2.2.2.2.2.2.2.2.2.2.2.2.2.2.1 x.2.2.1.2.2.2.2.2.2.2.2.2.2.2.2.2.2.2.2.2.2.2.2.2.2.2.2.2.1 x.2.2.1.2.2.2.2.2.2.2.2.2.2.2.2.2.2.2.2.2.2.2.2.2.2.2.2.2.2.1 x.2.2.2.1.1 x.2.2.2.1.2 x.2.2.2.2.1.1 x.2.2.2.2.1.2 x.2.2.2.2.2.1.1 x.2.2.2.2.2.1.2 x.2.2.2.2.2.2.1 x.2.2.2.2.2.2.2.1 x.2.2.2.2.2.2.2.2.1 x.2.2.2.2.2.2.2.2.2.1 x.2.2.2.2.2.2.2.2.2.2.1
abbrev h110r_L2:Shape:={ slots:=[(1,.bx 1 0),(2,.bx 2 0),(3,.ms 1001920),(4,.ms 1002112),(5,.ms 1002304),(60,.ms 1002304),(61,.v (.int .i64)),(62,.v (.int .i64))],boxes:=[(1,.cells [.ms 1000768,.v (.int .u32),.ms 1000769,.v .bool,.v (.int .u32),.v (.int .u32),.v (.int .u32),.v (.int .u32),.v .bool,.v .bool,.v (.int .u32),.v (.int .i64),.v (.int .i64),.v (.int .i64),.v .bool,.v (.int .i64),.v (.int .i64),.v (.int .i64),.ms 1000960,.v (.int .i64),.ms 1001600,.v (.int .i64),.v .bool,.ms 1001152,.v Ty123,.v Ty54,.v Ty131]),(2,.cells [.ms 60128,.v (.int .u32),.ms 60130,.v .bool,.v (.int .u32),.v (.int .u32),.v (.int .u32),.v (.int .u32),.v .bool,.v .bool,.v (.int .u32),.v (.int .i64),.v (.int .i64),.v (.int .i64),.v .bool,.v (.int .i64),.v (.int .i64),.v (.int .i64),.ms 60146,.v (.int .i64),.ms 60148,.v (.int .i64),.v .bool,.ms 60151,.ms 60152,.ms 60153,.ms 60154]),(1001920,.row Ty100),(1002112,.row Ty33),(1002304,.msk Ty121),(1000768,.row (.int .u32)),(1000769,.row (.sl (.int .u8))),(1000960,.row Ty80),(1001600,.row (.int .i64)),(1001152,.row (.sl (.int .u8))),(60128,.row (.int .u32)),(60130,.row (.sl (.int .u8))),(60146,.row Ty80),(60148,.row (.int .i64)),(60151,.row (.sl (.int .u8))),(60152,.row Ty100),(60153,.row Ty33),(60154,.row Ty121)] }
abbrev e110r_L2:List (XT×Shape):=[(.exit 2,{ slots:=[(1,.bx 1 0),(2,.bx 2 0),(3,.ms 1001920),(4,.ms 1002112),(5,.ms 1002304)],boxes:=[(1,.cells [.ms 1000768,.v (.int .u32),.ms 1000769,.v .bool,.v (.int .u32),.v (.int .u32),.v (.int .u32),.v (.int .u32),.v .bool,.v .bool,.v (.int .u32),.v (.int .i64),.v (.int .i64),.v (.int .i64),.v .bool,.v (.int .i64),.v (.int .i64),.v (.int .i64),.ms 1000960,.v (.int .i64),.ms 1001600,.v (.int .i64),.v .bool,.ms 1001152,.v Ty123,.v Ty54,.v Ty131]),(2,.cells [.ms 60128,.v (.int .u32),.ms 60130,.v .bool,.v (.int .u32),.v (.int .u32),.v (.int .u32),.v (.int .u32),.v .bool,.v .bool,.v (.int .u32),.v (.int .i64),.v (.int .i64),.v (.int .i64),.v .bool,.v (.int .i64),.v (.int .i64),.v (.int .i64),.ms 60146,.v (.int .i64),.ms 60148,.v (.int .i64),.v .bool,.ms 60151,.ms 60152,.ms 60153,.ms 60154]),(1001920,.row Ty100),(1002112,.row Ty33),(1002304,.row Ty121),(1000768,.row (.int .u32)),(1000769,.row (.sl (.int .u8))),(1000960,.row Ty80),(1001600,.row (.int .i64)),(1001152,.row (.sl (.int .u8))),(60128,.row (.int .u32)),(60130,.row (.sl (.int .u8))),(60146,.row Ty80),(60148,.row (.int .i64)),(60151,.row (.sl (.int .u8))),(60152,.row Ty100),(60153,.row Ty33),(60154,.row Ty121)] })]
noncomputable def q110r_L2 (t61:Int) (t62:Int) (b1_1:Int) (b1_3:Bool) (b1_4:Int) (b1_5:Int) (b1_6:Int) (b1_7:Int) (b1_8:Bool) (b1_9:Bool) (b1_10:Int) (b1_11:Int) (b1_12:Int) (b1_13:Int) (b1_14:Bool) (b1_15:Int) (b1_16:Int) (b1_17:Int) (b1_19:Int) (b1_21:Int) (b1_22:Bool) (b1_24:Ta1) (b1_25:(L ((L Int)×Unit))) (b1_26:Ta20) (b2_1:Int) (b2_3:Bool) (b2_4:Int) (b2_5:Int) (b2_6:Int) (b2_7:Int) (b2_8:Bool) (b2_9:Bool) (b2_10:Int) (b2_11:Int) (b2_12:Int) (b2_13:Int) (b2_14:Bool) (b2_15:Int) (b2_16:Int) (b2_17:Int) (b2_19:Int) (b2_21:Int) (b2_22:Bool) (r1001920:Ta1) (r1002112:(L ((L Int)×Unit))) (r1002304:Ta20) (m1002304:(Nat→Bool)) (r1000768:(L Int)) (r1000769:(L (L Int))) (r1000960:Ta7) (r1001600:(L Int)) (r1001152:(L (L Int))) (r60128:(L Int)) (r60130:(L (L Int))) (r60146:Ta7) (r60148:(L Int)) (r60151:(L (L Int))) (r60152:Ta1) (r60153:(L ((L Int)×Unit))) (r60154:Ta20):Option ((Ta127×(Ta330×(Ta279×(Ta1×((L ((L Int)×Unit))×((Ta20×(Nat→Bool))×Ta329))))))⊕(((Unit×Ta42)×(Ta330×(Ta279×(Ta1×((L ((L Int)×Unit))×(Ta20×Ta329))))))⊕Empty)) :=
bif (decide (t62 < t61)) then bif (decide (0≤t62)&&decide (t62 < (r1002304.len:Int))) then (g198r ((L.get r1002304 t62.toNat).1,((L.get r1002304 t62.toNat).2.1,()))).bind fun y11=>bif (decide (0≤t62)&&decide (t62 < (r1002304.len:Int))) then some (.inl (((),((),((),((),((),((),(t61,((wI (t62 + (1:Int))),())))))))),(((),(b1_1,((),(b1_3,(b1_4,(b1_5,(b1_6,(b1_7,(b1_8,(b1_9,(b1_10,(b1_11,(b1_12,(b1_13,(b1_14,(b1_15,(b1_16,(b1_17,((),(b1_19,((),(b1_21,(b1_22,((),(b1_24,(b1_25,(b1_26,()))))))))))))))))))))))))))),(((),(b2_1,((),(b2_3,(b2_4,(b2_5,(b2_6,(b2_7,(b2_8,(b2_9,(b2_10,(b2_11,(b2_12,(b2_13,(b2_14,(b2_15,(b2_16,(b2_17,((),(b2_19,((),(b2_21,(b2_22,((),((),((),((),()))))))))))))))))))))))))))),(r1001920,(r1002112,(((L.set r1002304 t62.toNat y11.1.1),(Go.VE.upd m1002304 t62.toNat true)),(r1000768,(r1000769,(r1000960,(r1001600,(r1001152,(r60128,(r60130,(r60146,(r60148,(r60151,(r60152,(r60153,(r60154,())))))))))))))))))))) else none else none else om .inr (om .inl (om (fun y=>(((),((),((),((),((),()))))),y)) (om (fun y=>(((),(b1_1,((),(b1_3,(b1_4,(b1_5,(b1_6,(b1_7,(b1_8,(b1_9,(b1_10,(b1_11,(b1_12,(b1_13,(b1_14,(b1_15,(b1_16,(b1_17,((),(b1_19,((),(b1_21,(b1_22,((),(b1_24,(b1_25,(b1_26,()))))))))))))))))))))))))))),y)) (om (fun y=>(((),(b2_1,((),(b2_3,(b2_4,(b2_5,(b2_6,(b2_7,(b2_8,(b2_9,(b2_10,(b2_11,(b2_12,(b2_13,(b2_14,(b2_15,(b2_16,(b2_17,((),(b2_19,((),(b2_21,(b2_22,((),((),((),((),()))))))))))))))))))))))))))),y)) (om (fun y=>(r1001920,y)) (om (fun y=>(r1002112,y)) (bif (allOwn (some m1002304) r1002304.len) then some (r1002304,(r1000768,(r1000769,(r1000960,(r1001600,(r1001152,(r60128,(r60130,(r60146,(r60148,(r60151,(r60152,(r60153,(r60154,())))))))))))))) else none)))))))
noncomputable def s110r_L2 (x:(Ta127×(Ta330×(Ta279×(Ta1×((L ((L Int)×Unit))×((Ta20×(Nat→Bool))×Ta329))))))):=q110r_L2 x.1.2.2.2.2.2.2.1 x.1.2.2.2.2.2.2.2.1 x.2.1.2.1 x.2.1.2.2.2.1 x.2.1.2.2.2.2.1 x.2.1.2.2.2.2.2.1 x.2.1.2.2.2.2.2.2.1 x.2.1.2.2.2.2.2.2.2.1 x.2.1.2.2.2.2.2.2.2.2.1 x.2.1.2.2.2.2.2.2.2.2.2.1 x.2.1.2.2.2.2.2.2.2.2.2.2.1 x.2.1.2.2.2.2.2.2.2.2.2.2.2.1 x.2.1.2.2.2.2.2.2.2.2.2.2.2.2.1 x.2.1.2.2.2.2.2.2.2.2.2.2.2.2.2.1 x.2.1.2.2.2.2.2.2.2.2.2.2.2.2.2.2.1 x.2.1.2.2.2.2.2.2.2.2.2.2.2.2.2.2.2.1 x.2.1.2.2.2.2.2.2.2.2.2.2.2.2.2.2.2.2.1 x.2.1.2.2.2.2.2.2.2.2.2.2.2.2.2.2.2.2.2.1 x.2.1.2.2.2.2.2.2.2.2.2.2.2.2.2.2.2.2.2.2.2.1 x.2.1.2.2.2.2.2.2.2.2.2.2.2.2.2.2.2.2.2.2.2.2.2.1 x.2.1.2.2.2.2.2.2.2.2.2.2.2.2.2.2.2.2.2.2.2.2.2.2.1 x.2.1.2.2.2.2.2.2.2.2.2.2.2.2.2.2.2.2.2.2.2.2.2.2.2.2.1 x.2.1.2.2.2.2.2.2.2.2.2.2.2.2.2.2.2.2.2.2.2.2.2.2.2.2.2.1 x.2.1.2.2.2.2.2.2.2.2.2.2.2.2.2.2.2.2.2.2.2.2.2.2.2.2.2.2.1 x.2.2.1.2.1 x.2.2.1.2.2.2.1 x.2.2.1.2.2.2.2.1 x.2.2.1.2.2.2.2.2.1 x.2.2.1.2.2.2.2.2.2.1 x.2.2.1.2.2.2.2.2.2.2.1 x.2.2.1.2.2.2.2.2.2.2.2.1 x.2.2.1.2.2.2.2.2.2.2.2.2.1 x.2.2.1.2.2.2.2.2.2.2.2.2.2.1 x.2.2.1.2.2.2.2.2.2.2.2.2.2.2.1 x.2.2.1.2.2.2.2.2.2.2.2.2.2.2.2.1 x.2.2.1.2.2.2.2.2.2.2.2.2.2.2.2.2.1 x.2.2.1.2.2.2.2.2.2.2.2.2.2.2.2.2.2.1 x.2.2.1.2.2.2.2.2.2.2.2.2.2.2.2.2.2.2.1 x.2.2.1.2.2.2.2.2.2.2.2.2.2.2.2.2.2.2.2.1 x.2.2.1.2.2.2.2.2.2.2.2.2.2.2.2.2.2.2.2.2.1 x.2.2.1.2.2.2.2.2.2.2.2.2.2.2.2.2.2.2.2.2.2.2.1 x.2.2.1.2.2.2.2.2.2.2.2.2.2.2.2.2.2.2.2.2.2.2.2.2.1 x.2.2.1.2.2.2.2.2.2.2.2.2.2.2.2.2.2.2.2.2.2.2.2.2.2.1 x.2.2.2.1 x.2.2.2.2.1 x.2.2.2.2.2.1.1 x.2.2.2.2.2.1.2 x.2.2.2.2.2.2.1 x.2.2.2.2.2.2.2.1 x.2.2.2.2.2.2.2.2.1 x.2.2.2.2.2.2.2.2.2.1 x.2.2.2.2.2.2.2.2.2.2.1 x.2.2.2.2.2.2.2.2.2.2.2.1 x.2.2.2.2.2.2.2.2.2.2.2.2.1 x.2.2.2.2.2.2.2.2.2.2.2.2.2.1 x.2.2.2.2.2.2.2.2.2.2.2.2.2.2.1 x.2.2.2.2.2.2.2.2.2.2.2.2.2.2.2.1 x.2.2.2.2.2.2.2.2.2.2.2.2.2.2.2.2.1 x.2.2.2.2.2.2.2.2.2.2.2.2.2.2.2.2.2.1 x.2.2.2.2.2.2.2.2.2.2.2.2.2.2.2.2.2.2.1
noncomputable def a110r:Nat→Option LoopAnn:=fun c=>bif Nat.beq c 0 then some (.fix h110r_L0 e110r_L0 s110r_L0) else bif Nat.beq c 2 then some (.fix h110r_L2 e110r_L2 s110r_L2) else none
noncomputable def g110r (x0:Ta357):Option Ta359 :=
(g190r x0.1).bind fun y1=>(g191r x0.2.2.2.1).bind fun y2=>(g150r x0.2.2.2.2.2.2.2.1).bind fun y3=>(g192r x0.2.2.2.2.1.2.1).bind fun y4=>(g193w x0.2.2.2.2.2.2.2.2.1).bind fun y5=>(g194w x0.2.2.2.2.2.2.2.2.2.1).bind fun y6=>(g195w x0.2.2.2.2.2.2.2.2.2.2.1).bind fun y7=>(fixO s110r_L0 (((),((),((),((),((),((),((y5.1.1.len:Int),((0:Int),())))))))),(((),(y1.1.1.2.1,((),(x0.2.1.1,(x0.2.1.2.1,(x0.2.1.2.2.1,(x0.2.1.2.2.2.1,(x0.2.1.2.2.2.2.1,(x0.2.1.2.2.2.2.2.1,(x0.2.1.2.2.2.2.2.2.1,(x0.2.1.2.2.2.2.2.2.2.1,(x0.2.2.1.1,(x0.2.2.1.2.1,(x0.2.2.1.2.2.1,(x0.2.2.1.2.2.2.1,(y2.1.1.1.1,(y2.1.1.1.2.1,(y2.1.1.1.2.2.1,((),(x0.2.2.2.2.1.1,((),(x0.2.2.2.2.2.1,(x0.2.2.2.2.2.2.1,((),x0.2.2.2.2.2.2.2.2)))))))))))))))))))))))),(((nilL (.int .u32)),((0:Int),((nilL (.sl (.int .u8))),(false,((0:Int),((0:Int),((0:Int),((0:Int),(false,(false,((0:Int),((0:Int),((0:Int),((0:Int),(false,((0:Int),((0:Int),((0:Int),((nilL Ty80),((0:Int),((nilL (.int .i64)),((0:Int),(false,((nilL (.sl (.int .u8))),((nilL Ty100),((nilL Ty33),((nilL Ty121),()))))))))))))))))))))))))))),((y5.1.1,(fun _=>false)),((y6.1.1,(fun _=>false)),((y7.1.1,(fun _=>false)),(y1.1.1.1,(y1.1.1.2.2.1,(y2.1.1.2.1,(y4.1.1,y3.1))))))))))).bind fun d14=>match d14 with | .inl y10=>((fixO s110r_L2 (((),((),((),((),((),((),((y10.2.2.2.2.2.1.1.len:Int),((0:Int),())))))))),(((),(y10.2.1.2.1,((),(y10.2.1.2.2.2.1,(y10.2.1.2.2.2.2.1,(y10.2.1.2.2.2.2.2.1,(y10.2.1.2.2.2.2.2.2.1,(y10.2.1.2.2.2.2.2.2.2.1,(y10.2.1.2.2.2.2.2.2.2.2.1,(y10.2.1.2.2.2.2.2.2.2.2.2.1,(y10.2.1.2.2.2.2.2.2.2.2.2.2.1,(y10.2.1.2.2.2.2.2.2.2.2.2.2.2.1,(y10.2.1.2.2.2.2.2.2.2.2.2.2.2.2.1,(y10.2.1.2.2.2.2.2.2.2.2.2.2.2.2.2.1,(y10.2.1.2.2.2.2.2.2.2.2.2.2.2.2.2.2.1,(y10.2.1.2.2.2.2.2.2.2.2.2.2.2.2.2.2.2.1,(y10.2.1.2.2.2.2.2.2.2.2.2.2.2.2.2.2.2.2.1,(y10.2.1.2.2.2.2.2.2.2.2.2.2.2.2.2.2.2.2.2.1,((),(y10.2.1.2.2.2.2.2.2.2.2.2.2.2.2.2.2.2.2.2.2.2.1,((),(y10.2.1.2.2.2.2.2.2.2.2.2.2.2.2.2.2.2.2.2.2.2.2.2.1,(y10.2.1.2.2.2.2.2.2.2.2.2.2.2.2.2.2.2.2.2.2.2.2.2.2.1,((),y10.2.1.2.2.2.2.2.2.2.2.2.2.2.2.2.2.2.2.2.2.2.2.2.2.2.2)))))))))))))))))))))))),(((),(y10.2.2.1.2.1,((),(y10.2.2.1.2.2.2.1,(y10.2.2.1.2.2.2.2.1,(y10.2.2.1.2.2.2.2.2.1,(y10.2.2.1.2.2.2.2.2.2.1,(y10.2.2.1.2.2.2.2.2.2.2.1,(y10.2.2.1.2.2.2.2.2.2.2.2.1,(y10.2.2.1.2.2.2.2.2.2.2.2.2.1,(y10.2.2.1.2.2.2.2.2.2.2.2.2.2.1,(y10.2.2.1.2.2.2.2.2.2.2.2.2.2.2.1,(y10.2.2.1.2.2.2.2.2.2.2.2.2.2.2.2.1,(y10.2.2.1.2.2.2.2.2.2.2.2.2.2.2.2.2.1,(y10.2.2.1.2.2.2.2.2.2.2.2.2.2.2.2.2.2.1,(y10.2.2.1.2.2.2.2.2.2.2.2.2.2.2.2.2.2.2.1,(y10.2.2.1.2.2.2.2.2.2.2.2.2.2.2.2.2.2.2.2.1,(y10.2.2.1.2.2.2.2.2.2.2.2.2.2.2.2.2.2.2.2.2.1,((),(y10.2.2.1.2.2.2.2.2.2.2.2.2.2.2.2.2.2.2.2.2.2.2.1,((),(y10.2.2.1.2.2.2.2.2.2.2.2.2.2.2.2.2.2.2.2.2.2.2.2.2.1,(y10.2.2.1.2.2.2.2.2.2.2.2.2.2.2.2.2.2.2.2.2.2.2.2.2.2.1,((),((),((),((),()))))))))))))))))))))))))))),(y10.2.2.2.1,(y10.2.2.2.2.1,((y10.2.2.2.2.2.1.1,y10.2.2.2.2.2.1.2),y10.2.2.2.2.2.2))))))).bind fun d13=>match d13 with | .inl y12=>some ((((y12.2.2.2.2.2.2.1,(y12.2.1.2.1,(y12.2.2.2.2.2.2.2.1,()))),((y12.2.1.2.2.2.1,(y12.2.1.2.2.2.2.1,(y12.2.1.2.2.2.2.2.1,(y12.2.1.2.2.2.2.2.2.1,(y12.2.1.2.2.2.2.2.2.2.1,(y12.2.1.2.2.2.2.2.2.2.2.1,(y12.2.1.2.2.2.2.2.2.2.2.2.1,(y12.2.1.2.2.2.2.2.2.2.2.2.2.1,())))))))),((y12.2.1.2.2.2.2.2.2.2.2.2.2.2.1,(y12.2.1.2.2.2.2.2.2.2.2.2.2.2.2.1,(y12.2.1.2.2.2.2.2.2.2.2.2.2.2.2.2.1,(y12.2.1.2.2.2.2.2.2.2.2.2.2.2.2.2.2.1,())))),(((y12.2.1.2.2.2.2.2.2.2.2.2.2.2.2.2.2.2.1,(y12.2.1.2.2.2.2.2.2.2.2.2.2.2.2.2.2.2.2.1,(y12.2.1.2.2.2.2.2.2.2.2.2.2.2.2.2.2.2.2.2.1,()))),(y12.2.2.2.2.2.2.2.2.1,())),((y12.2.1.2.2.2.2.2.2.2.2.2.2.2.2.2.2.2.2.2.2.2.1,(y12.2.2.2.2.2.2.2.2.2.1,())),(y12.2.1.2.2.2.2.2.2.2.2.2.2.2.2.2.2.2.2.2.2.2.2.2.1,(y12.2.1.2.2.2.2.2.2.2.2.2.2.2.2.2.2.2.2.2.2.2.2.2.2.1,(y12.2.2.2.2.2.2.2.2.2.2.1,(y12.2.2.2.1,(y12.2.2.2.2.1,(y12.2.2.2.2.2.1,()))))))))))),()),()) | .inr e=>nomatch e) | .inr e=>nomatch e
noncomputable def c110r:Ctr:={ ins:=[.v Ty380],out:=[Ty380],F:=fun x=>g110r x.1,fr:=1 }
noncomputable def l110r:List (Nat×Code):=loopsIn (Tryz.f110.body.getD .skip) 0
theorem w110r_L0:LW t110r a110r l110r 0 0 h110r_L0 e110r_L0 s110r_L0:=fun x=>by kernel_rfl
theorem w110r_L2:LW t110r a110r l110r 1 2 h110r_L2 e110r_L2 s110r_L2:=fun x=>by kernel_rfl
theorem o110r:Holds Tryz.prog 110 c110r:=fh t110r a110r Tryz.func110 [(0,lg l110r 0),(2,lg l110r 1)] ⟨fun x d h=>(w110r_L0 x).trans h,fun x d h=>(w110r_L2 x).trans h,trivial⟩ (tc o190r (tc o191r (tc o150r (tc o192r (tc o193w (tc o194w (tc o195w (tc o196r (tc o197r (tc o198r tn))))))))))
noncomputable def t149r:Tbl:=[]
noncomputable def g149r (x0:(Int×(Int×(Int×Unit)))):Option Ta146 :=
bif (decide (x0.1 = x0.1)&&(decide (0≤x0.1)&&(decide (x0.1≤2 ^ 40)&&decide (24 * x0.1≤2 ^ 48)))) then some (((x0,((L.rep x0.1.toNat (Ty.zero Ty80)),())),()),()) else none
noncomputable def c149r:Ctr:={ ins:=[.v Ty135],out:=[Ty234],F:=fun x=>g149r x.1,fr:=1 }
theorem o149r:Holds Tryz.prog 149 c149r:=f0 t149r Tryz.func149 tn
noncomputable def t313rn:Tbl:=[]
noncomputable def g313rn (x1:Int):Option (((L Int)×Unit)×Unit) :=
bif (decide (x1 < (0:Int))) then none else bif (decide ((wI (x1 - (0:Int))) > (0:Int))) then bif (decide (0 < (wI (x1 - (0:Int))))&&decide ((wI (x1 - (0:Int)))≤most)) then bif (decide (0≤(0:Int))&&(decide ((0:Int)≤(0:Int))&&decide ((0:Int)≤((L.rep (wI (x1 - (0:Int))).toNat (Ty.zero (.int .u32))).len:Int)))) then some (((L.cut (L.rep (wI (x1 - (0:Int))).toNat (Ty.zero (.int .u32))) (0:Int).toNat (0:Int).toNat),()),()) else none else none else some (((nilL (.int .u32)),()),())
noncomputable def c313rn:Ctr:={ ins:=[.nl,.v (.int .i64)],out:=[(.sl (.int .u32))],F:=fun x=>g313rn x.2.1,fr:=1 }
theorem o313rn:Holds Tryz.prog 313 c313rn:=f0 t313rn Tryz.func313 tn
noncomputable def t261r:Tbl:=[(313,[],c313rn)]
abbrev h261r_L0:Shape:={ slots:=[(0,.v (.sl (.sl (.int .u32)))),(3,.v (.int .i64)),(9,.v (.sl (.sl (.int .u32)))),(10,.v (.int .i64)),(11,.v (.int .i64))],boxes:=[] }
abbrev e261r_L0:List (XT×Shape):=[(.exit 0,{ slots:=[(0,.v (.sl (.sl (.int .u32)))),(3,.v (.int .i64))],boxes:=[] })]
noncomputable def q261r_L0 (t0:(L (L Int))) (t3:Int) (t9:(L (L Int))) (t10:Int) (t11:Int):Option ((((L (L Int))×(Int×Ta28))×Unit)⊕((Ta5×Unit)⊕Empty)) :=
bif (decide (t11 < t10)) then bif (decide (0≤t11)&&decide (t11 < (t9.len:Int))) then bif (decide ((wI (t3 + ((L.get t9 t11.toNat).len:Int))) < (0:Int))) then none else some (.inl ((t0,((wI (t3 + ((L.get t9 t11.toNat).len:Int))),(t9,(t10,((wI (t11 + (1:Int))),()))))),())) else none else some (.inr (.inl ((t0,(t3,())),())))
noncomputable def s261r_L0 (x:(((L (L Int))×(Int×Ta28))×Unit)):=q261r_L0 x.1.1 x.1.2.1 x.1.2.2.1 x.1.2.2.2.1 x.1.2.2.2.2.1
abbrev h261r_L2:Shape:={ slots:=[(6,.ms 1001536),(25,.v (.sl (.sl (.int .u32)))),(26,.v (.int .i64)),(27,.v (.int .i64))],boxes:=[(1001536,.row (.int .u32))] }
abbrev e261r_L2:List (XT×Shape):=[(.exit 2,{ slots:=[(6,.ms 1001536)],boxes:=[(1001536,.row (.int .u32))] })]
noncomputable def q261r_L2 (t25:(L (L Int))) (t26:Int) (t27:Int) (r1001536:(L Int)):Option ((Ta56×((L Int)×Unit))⊕(Ta21⊕Empty)) :=
bif (decide (t27 < t26)) then bif (decide (0≤t27)&&decide (t27 < (t25.len:Int))) then bif (decide (r1001536.len + (L.get t25 t27.toNat).len≤most)) then some (.inl (((),(t25,(t26,((wI (t27 + (1:Int))),())))),((L.app r1001536 (L.get t25 t27.toNat)),()))) else none else none else some (.inr (.inl (((),()),(r1001536,()))))
noncomputable def s261r_L2 (x:(Ta56×((L Int)×Unit))):=q261r_L2 x.1.2.1 x.1.2.2.1 x.1.2.2.2.1 x.2.1
noncomputable def a261r:Nat→Option LoopAnn:=fun c=>bif Nat.beq c 0 then some (.fix h261r_L0 e261r_L0 s261r_L0) else bif Nat.beq c 2 then some (.fix h261r_L2 e261r_L2 s261r_L2) else none
noncomputable def g261r (x0:(L (L Int))):Option (((L Int)×Unit)×Unit) :=
(fixO s261r_L0 ((x0,((0:Int),(x0,((x0.len:Int),((0:Int),()))))),())).bind fun d5=>match d5 with | .inl y1=>(g313rn y1.1.2.1).bind fun y2=>((fixO s261r_L2 (((),(y1.1.1,((y1.1.1.len:Int),((0:Int),())))),y2.1)).bind fun d4=>match d4 with | .inl y3=>some ((y3.2.1,()),()) | .inr e=>nomatch e) | .inr e=>nomatch e
noncomputable def c261r:Ctr:={ ins:=[.v (.sl (.sl (.int .u32)))],out:=[(.sl (.int .u32))],F:=fun x=>g261r x.1,fr:=1 }
noncomputable def l261r:List (Nat×Code):=loopsIn (Tryz.f261.body.getD .skip) 0
theorem w261r_L0:LW t261r a261r l261r 0 0 h261r_L0 e261r_L0 s261r_L0:=fun x=>by kernel_rfl
theorem w261r_L2:LW t261r a261r l261r 1 2 h261r_L2 e261r_L2 s261r_L2:=fun x=>by kernel_rfl
theorem o261r:Holds Tryz.prog 261 c261r:=fh t261r a261r Tryz.func261 [(0,lg l261r 0),(2,lg l261r 1)] ⟨fun x d h=>(w261r_L0 x).trans h,fun x d h=>(w261r_L2 x).trans h,trivial⟩ (tc o313rn tn)
noncomputable def t205p:Tbl:=[(261,[],c261r)]
noncomputable def g205p (x0:Ta2):Option ((Bool×Unit)×Ta37) :=
bif (decide (0≤(0:Int))&&(decide ((0:Int)≤(if (wI ((8:Int) - (x0.2.1.len:Int))) < (x0.1.len:Int) then (wI ((8:Int) - (x0.2.1.len:Int))) else (x0.1.len:Int)))&&decide ((if (wI ((8:Int) - (x0.2.1.len:Int))) < (x0.1.len:Int) then (wI ((8:Int) - (x0.2.1.len:Int))) else (x0.1.len:Int))≤(x0.1.len:Int)))) then (g261r (L.of (Ty.zero (.sl (.int .u32))) [x0.2.1,(L.cut x0.1 (0:Int).toNat (if (wI ((8:Int) - (x0.2.1.len:Int))) < (x0.1.len:Int) then (wI ((8:Int) - (x0.2.1.len:Int))) else (x0.1.len:Int)).toNat)])).bind fun y1=>bif (decide (0≤(if (wI ((8:Int) - (x0.2.1.len:Int))) < (x0.1.len:Int) then (wI ((8:Int) - (x0.2.1.len:Int))) else (x0.1.len:Int)))&&(decide ((if (wI ((8:Int) - (x0.2.1.len:Int))) < (x0.1.len:Int) then (wI ((8:Int) - (x0.2.1.len:Int))) else (x0.1.len:Int))≤(x0.1.len:Int))&&decide ((x0.1.len:Int)≤(x0.1.len:Int)))) then some (((decide ((if (wI ((8:Int) - (x0.2.1.len:Int))) < (x0.1.len:Int) then (wI ((8:Int) - (x0.2.1.len:Int))) else (x0.1.len:Int)) > (0:Int))),()),(((L.cut x0.1 (if (wI ((8:Int) - (x0.2.1.len:Int))) < (x0.1.len:Int) then (wI ((8:Int) - (x0.2.1.len:Int))) else (x0.1.len:Int)).toNat (x0.1.len:Int).toNat),y1.1),())) else none else none
noncomputable def c205p:Ctr:={ ins:=[.pt Ty121],out:=[.bool],F:=fun x=>g205p x.1 }
theorem o205p:Holds Tryz.prog 205 c205p:=f0 t205p Tryz.func205 (tc o261r tn)
noncomputable def t206:Tbl:=[(136,[],c136)]
noncomputable def g206 (x0:Ta116) (x1:Int):Option Ta141 :=
bif (f136 x1 (0:Int) (31:Int)) then bif (decide (0≤x1)) then some (((x0.1,(x0.2.1,(x0.2.2.1,(x0.2.2.2.1,(x0.2.2.2.2.1,(x0.2.2.2.2.2.1,(x0.2.2.2.2.2.2.1,((orOf .u32 x0.2.2.2.2.2.2.2.1 (shlOf .u32 (1:Int) x1)),())))))))),()),()) else none else some ((x0,()),())
noncomputable def c206:Ctr:={ ins:=[.v Ty242,.v (.int .i64)],out:=[Ty242],F:=fun x=>g206 x.1 x.2.1 }
theorem o206:Holds Tryz.prog 206 c206:=f0 t206 Tryz.func206 (tc o136 tn)
noncomputable def t116p:Tbl:=[(149,[],c149r),(109,[],c109),(205,[],c205p),(206,[],c206)]
abbrev h116p_L0:Shape:={ slots:=[(0,.bx 100000000 0),(2,.v (.int .i64)),(5,.bx 5 0),(40,.v (.int .i64)),(41,.v (.int .i64))],boxes:=[(100000000,.cells [.ms 100000001,.v (.int .u32),.ms 100000002,.v .bool,.v (.int .u32),.v (.int .u32),.v (.int .u32),.v (.int .u32),.v .bool,.v .bool,.v (.int .u32),.v (.int .i64),.v (.int .i64),.v (.int .i64),.v .bool,.v (.int .i64),.v (.int .i64),.v (.int .i64),.ms 1000960,.v (.int .i64),.row (.int .i64) 63000020,.v (.int .i64),.v .bool,.ms 100000005,.ms 100000006,.ms 100000007,.ms 100000008]),(5,.typ Ty379),(100000001,.row (.int .u32)),(100000002,.row (.sl (.int .u8))),(1000960,.row Ty80),(100000005,.row (.sl (.int .u8))),(100000006,.row Ty100),(100000007,.row Ty33),(100000008,.row Ty121)] }
abbrev e116p_L0:List (XT×Shape):=[(.exit 0,{ slots:=[],boxes:=[(100000000,.cells [.ms 100000001,.v (.int .u32),.ms 100000002,.v .bool,.v (.int .u32),.v (.int .u32),.v (.int .u32),.v (.int .u32),.v .bool,.v .bool,.v (.int .u32),.v (.int .i64),.v (.int .i64),.v (.int .i64),.v .bool,.v (.int .i64),.v (.int .i64),.v (.int .i64),.ms 1000960,.v (.int .i64),.ms 63000020,.v (.int .i64),.v .bool,.ms 100000005,.ms 100000006,.ms 100000007,.ms 100000008]),(100000001,.row (.int .u32)),(100000002,.row (.sl (.int .u8))),(1000960,.row Ty80),(63000020,.row (.int .i64)),(100000005,.row (.sl (.int .u8))),(100000006,.row Ty100),(100000007,.row Ty33),(100000008,.row Ty121)] })]
noncomputable def q116p_L0 (t2:Int) (t40:Int) (t41:Int) (b100000000_1:Int) (b100000000_3:Bool) (b100000000_4:Int) (b100000000_5:Int) (b100000000_6:Int) (b100000000_7:Int) (b100000000_8:Bool) (b100000000_9:Bool) (b100000000_10:Int) (b100000000_11:Int) (b100000000_12:Int) (b100000000_13:Int) (b100000000_14:Bool) (b100000000_15:Int) (b100000000_16:Int) (b100000000_17:Int) (b100000000_19:Int) (b100000000_20:(L Int)) (b100000000_21:Int) (b100000000_22:Bool) (b5:Ta339) (r100000001:(L Int)) (r100000002:(L (L Int))) (r1000960:Ta7) (r100000005:(L (L Int))) (r100000006:Ta1) (r100000007:(L ((L Int)×Unit))) (r100000008:Ta20):Option (((Unit×(Int×(Unit×(Int×(Int×Unit)))))×((Unit×(Int×(Unit×(Bool×(Int×(Int×(Int×(Int×(Bool×(Bool×(Int×(Int×(Int×(Int×(Bool×(Int×(Int×(Int×(Unit×(Int×((L Int)×Ta83)))))))))))))))))))))×(Ta339×((L Int)×((L (L Int))×(Ta7×Ta184))))))⊕((Unit×(Ta279×Ta257))⊕Empty)) :=
bif (decide (t41 < t40)) then (g109 b5 t2 t41).bind fun y2=>bif y2.1.1 then bif (decide (0≤t41)&&decide (t41 < (r100000008.len:Int))) then (g205p (L.get r100000008 t41.toNat)).bind fun y3=>bif y3.1.1 then (g206 (b100000000_3,(b100000000_4,(b100000000_5,(b100000000_6,(b100000000_7,(b100000000_8,(b100000000_9,(b100000000_10,())))))))) t41).bind fun y4=>some (.inl (((),(t2,((),(t40,((wI (t41 + (1:Int))),()))))),(((),(b100000000_1,((),(y4.1.1.1,(y4.1.1.2.1,(y4.1.1.2.2.1,(y4.1.1.2.2.2.1,(y4.1.1.2.2.2.2.1,(y4.1.1.2.2.2.2.2.1,(y4.1.1.2.2.2.2.2.2.1,(y4.1.1.2.2.2.2.2.2.2.1,(b100000000_11,(b100000000_12,(b100000000_13,(b100000000_14,(b100000000_15,(b100000000_16,(b100000000_17,((),(b100000000_19,(b100000000_20,(b100000000_21,(b100000000_22,((),((),((),((),()))))))))))))))))))))))))))),(b5,(r100000001,(r100000002,(r1000960,(r100000005,(r100000006,(r100000007,((L.set r100000008 t41.toNat y3.2.1),()))))))))))) else some (.inl (((),(t2,((),(t40,((wI (t41 + (1:Int))),()))))),(((),(b100000000_1,((),(b100000000_3,(b100000000_4,(b100000000_5,(b100000000_6,(b100000000_7,(b100000000_8,(b100000000_9,(b100000000_10,(b100000000_11,(b100000000_12,(b100000000_13,(b100000000_14,(b100000000_15,(b100000000_16,(b100000000_17,((),(b100000000_19,(b100000000_20,(b100000000_21,(b100000000_22,((),((),((),((),()))))))))))))))))))))))))))),(b5,(r100000001,(r100000002,(r1000960,(r100000005,(r100000006,(r100000007,((L.set r100000008 t41.toNat y3.2.1),()))))))))))) else none else some (.inl (((),(t2,((),(t40,((wI (t41 + (1:Int))),()))))),(((),(b100000000_1,((),(b100000000_3,(b100000000_4,(b100000000_5,(b100000000_6,(b100000000_7,(b100000000_8,(b100000000_9,(b100000000_10,(b100000000_11,(b100000000_12,(b100000000_13,(b100000000_14,(b100000000_15,(b100000000_16,(b100000000_17,((),(b100000000_19,(b100000000_20,(b100000000_21,(b100000000_22,((),((),((),((),()))))))))))))))))))))))))))),(b5,(r100000001,(r100000002,(r1000960,(r100000005,(r100000006,(r100000007,(r100000008,()))))))))))) else some (.inr (.inl ((),(((),(b100000000_1,((),(b100000000_3,(b100000000_4,(b100000000_5,(b100000000_6,(b100000000_7,(b100000000_8,(b100000000_9,(b100000000_10,(b100000000_11,(b100000000_12,(b100000000_13,(b100000000_14,(b100000000_15,(b100000000_16,(b100000000_17,((),(b100000000_19,((),(b100000000_21,(b100000000_22,((),((),((),((),()))))))))))))))))))))))))))),(r100000001,(r100000002,(r1000960,(b100000000_20,(r100000005,(r100000006,(r100000007,(r100000008,()))))))))))))
noncomputable def s116p_L0 (x:((Unit×(Int×(Unit×(Int×(Int×Unit)))))×((Unit×(Int×(Unit×(Bool×(Int×(Int×(Int×(Int×(Bool×(Bool×(Int×(Int×(Int×(Int×(Bool×(Int×(Int×(Int×(Unit×(Int×((L Int)×Ta83)))))))))))))))))))))×(Ta339×((L Int)×((L (L Int))×(Ta7×Ta184))))))):=q116p_L0 x.1.2.1 x.1.2.2.2.1 x.1.2.2.2.2.1 x.2.1.2.1 x.2.1.2.2.2.1 x.2.1.2.2.2.2.1 x.2.1.2.2.2.2.2.1 x.2.1.2.2.2.2.2.2.1 x.2.1.2.2.2.2.2.2.2.1 x.2.1.2.2.2.2.2.2.2.2.1 x.2.1.2.2.2.2.2.2.2.2.2.1 x.2.1.2.2.2.2.2.2.2.2.2.2.1 x.2.1.2.2.2.2.2.2.2.2.2.2.2.1 x.2.1.2.2.2.2.2.2.2.2.2.2.2.2.1 x.2.1.2.2.2.2.2.2.2.2.2.2.2.2.2.1 x.2.1.2.2.2.2.2.2.2.2.2.2.2.2.2.2.1 x.2.1.2.2.2.2.2.2.2.2.2.2.2.2.2.2.2.1 x.2.1.2.2.2.2.2.2.2.2.2.2.2.2.2.2.2.2.1 x.2.1.2.2.2.2.2.2.2.2.2.2.2.2.2.2.2.2.2.1 x.2.1.2.2.2.2.2.2.2.2.2.2.2.2.2.2.2.2.2.2.2.1 x.2.1.2.2.2.2.2.2.2.2.2.2.2.2.2.2.2.2.2.2.2.2.1 x.2.1.2.2.2.2.2.2.2.2.2.2.2.2.2.2.2.2.2.2.2.2.2.1 x.2.1.2.2.2.2.2.2.2.2.2.2.2.2.2.2.2.2.2.2.2.2.2.2.1 x.2.2.1 x.2.2.2.1 x.2.2.2.2.1 x.2.2.2.2.2.1 x.2.2.2.2.2.2.1 x.2.2.2.2.2.2.2.1 x.2.2.2.2.2.2.2.2.1 x.2.2.2.2.2.2.2.2.2.1
noncomputable def a116p:Nat→Option LoopAnn:=fun c=>bif Nat.beq c 0 then some (.fix h116p_L0 e116p_L0 s116p_L0) else none
noncomputable def g116p (x0:Ta357) (x1:Ta339) (x2:Int) (x3:Int):Option (Unit×Ta358) :=
(g149r x1.2.1).bind fun y1=>bif x0.2.2.1.2.2.2.1 then some ((),(((x0.1.1,(x0.1.2.1,x0.1.2.2)),(x0.2.1,(x0.2.2.1,(y1.1.1,((x1.2.2.1,((nilL (.int .i64)),())),((wI (x3 + x1.2.2.2.2.1)),(false,x0.2.2.2.2.2.2.2))))))),())) else (fixO s116p_L0 (((),(x2,((),((x0.2.2.2.2.2.2.2.2.2.2.1.len:Int),((0:Int),()))))),(((),(x0.1.2.1,((),(x0.2.1.1,(x0.2.1.2.1,(x0.2.1.2.2.1,(x0.2.1.2.2.2.1,(x0.2.1.2.2.2.2.1,(x0.2.1.2.2.2.2.2.1,(x0.2.1.2.2.2.2.2.2.1,(x0.2.1.2.2.2.2.2.2.2.1,(x0.2.2.1.1,(x0.2.2.1.2.1,(x0.2.2.1.2.2.1,(x0.2.2.1.2.2.2.1,(y1.1.1.1.1,(y1.1.1.1.2.1,(y1.1.1.1.2.2.1,((),(x1.2.2.1,((nilL (.int .i64)),((wI (x3 + x1.2.2.2.2.1)),(false,((),((),((),((),()))))))))))))))))))))))))))),(x1,(x0.1.1,(x0.1.2.2.1,(y1.1.1.2.1,x0.2.2.2.2.2.2.2))))))).bind fun d6=>match d6 with | .inl y5=>some ((),(((y5.2.2.1,(y5.2.1.2.1,(y5.2.2.2.1,()))),((y5.2.1.2.2.2.1,(y5.2.1.2.2.2.2.1,(y5.2.1.2.2.2.2.2.1,(y5.2.1.2.2.2.2.2.2.1,(y5.2.1.2.2.2.2.2.2.2.1,(y5.2.1.2.2.2.2.2.2.2.2.1,(y5.2.1.2.2.2.2.2.2.2.2.2.1,(y5.2.1.2.2.2.2.2.2.2.2.2.2.1,())))))))),((y5.2.1.2.2.2.2.2.2.2.2.2.2.2.1,(y5.2.1.2.2.2.2.2.2.2.2.2.2.2.2.1,(y5.2.1.2.2.2.2.2.2.2.2.2.2.2.2.2.1,(y5.2.1.2.2.2.2.2.2.2.2.2.2.2.2.2.2.1,())))),(((y5.2.1.2.2.2.2.2.2.2.2.2.2.2.2.2.2.2.1,(y5.2.1.2.2.2.2.2.2.2.2.2.2.2.2.2.2.2.2.1,(y5.2.1.2.2.2.2.2.2.2.2.2.2.2.2.2.2.2.2.2.1,()))),(y5.2.2.2.2.1,())),((y5.2.1.2.2.2.2.2.2.2.2.2.2.2.2.2.2.2.2.2.2.2.1,(y5.2.2.2.2.2.1,())),(y5.2.1.2.2.2.2.2.2.2.2.2.2.2.2.2.2.2.2.2.2.2.2.2.1,(y5.2.1.2.2.2.2.2.2.2.2.2.2.2.2.2.2.2.2.2.2.2.2.2.2.1,y5.2.2.2.2.2.2))))))),())) | .inr e=>nomatch e
noncomputable def c116p:Ctr:={ ins:=[.pt Ty380,.v Ty379,.v (.int .i64),.v (.int .i64)],out:=[],F:=fun x=>g116p x.1 x.2.1 x.2.2.1 x.2.2.2.1 }
noncomputable def l116p:List (Nat×Code):=loopsIn (Tryz.f116.body.getD .skip) 0
theorem w116p_L0:LW t116p a116p l116p 0 0 h116p_L0 e116p_L0 s116p_L0:=fun x=>by kernel_rfl
theorem o116p:Holds Tryz.prog 116 c116p:=fh t116p a116p Tryz.func116 [(0,lg l116p 0)] ⟨fun x d h=>(w116p_L0 x).trans h,trivial⟩ (tc o149r (tc o109 (tc o205p (tc o206 tn))))
noncomputable def t29r:Tbl:=[(108,[],c108),(115,[],c115),(110,[],c110r),(116,[],c116p)]
noncomputable def g29r (x0:Ta339) (x1:Int) (x2:Ta357) (x3:Int):Option ((Ta357×(Bool×Unit))×Unit) :=
(g108 x0 x1 x2).bind fun y1=>bif (!y1.1.1) then some (((((nilL (.int .u32)),((0:Int),((nilL (.sl (.int .u8))),()))),((false,((0:Int),((0:Int),((0:Int),((0:Int),(false,(false,((0:Int),())))))))),(((0:Int),((0:Int),((0:Int),(false,())))),((((0:Int),((0:Int),((0:Int),()))),((nilL Ty80),())),(((0:Int),((nilL (.int .i64)),())),((0:Int),(false,((nilL (.sl (.int .u8))),((nilL Ty100),((nilL Ty33),((nilL Ty121),()))))))))))),false,()),()) else bif (!(f115 x3)) then some (((((nilL (.int .u32)),((0:Int),((nilL (.sl (.int .u8))),()))),((false,((0:Int),((0:Int),((0:Int),((0:Int),(false,(false,((0:Int),())))))))),(((0:Int),((0:Int),((0:Int),(false,())))),((((0:Int),((0:Int),((0:Int),()))),((nilL Ty80),())),(((0:Int),((nilL (.int .i64)),())),((0:Int),(false,((nilL (.sl (.int .u8))),((nilL Ty100),((nilL Ty33),((nilL Ty121),()))))))))))),false,()),()) else (g110r x2).bind fun y2=>(g116p ((y2.1.1.1.1,(y2.1.1.1.2.1,y2.1.1.1.2.2)),(y2.1.1.2.1,(y2.1.1.2.2.1,((y2.1.1.2.2.2.1.1,y2.1.1.2.2.2.1.2),((y2.1.1.2.2.2.2.1.1,y2.1.1.2.2.2.2.1.2),(y2.1.1.2.2.2.2.2.1,(y2.1.1.2.2.2.2.2.2.1,y2.1.1.2.2.2.2.2.2.2))))))) x0 x1 x3).bind fun y3=>some ((((y3.2.1.1.1,(y3.2.1.1.2.1,y3.2.1.1.2.2)),(y3.2.1.2.1,(y3.2.1.2.2.1,((y3.2.1.2.2.2.1.1,y3.2.1.2.2.2.1.2),((y3.2.1.2.2.2.2.1.1,y3.2.1.2.2.2.2.1.2),(y3.2.1.2.2.2.2.2.1,(y3.2.1.2.2.2.2.2.2.1,y3.2.1.2.2.2.2.2.2.2))))))),true,()),())
noncomputable def c29r:Ctr:={ ins:=[.v Ty379,.v (.int .i64),.v Ty380,.v (.int .i64)],out:=[Ty380,.bool],F:=fun x=>g29r x.1 x.2.1 x.2.2.1 x.2.2.2.1,fr:=1 }
theorem o29r:Holds Tryz.prog 29 c29r:=f0 t29r Tryz.func29 (tc o108 (tc o115 (tc o110r (tc o116p tn))))
noncomputable def t151:Tbl:=[]
abbrev h151_L0:Shape:={ slots:=[(0,.v (.sl (.int .u32))),(1,.v (.sl (.int .u32))),(5,.v (.int .i64))],boxes:=[] }
abbrev e151_L0:List (XT×Shape):=[(.ret,{ slots:=[(4,.v .bool)],boxes:=[] }),(.exit 0,{ slots:=[],boxes:=[] })]
noncomputable def q151_L0 (t0:(L Int)) (t1:(L Int)) (t5:Int):Option (Ta58⊕(((Bool×Unit)×Unit)⊕((Unit×Unit)⊕Empty))) :=
bif (decide (t5 < (t0.len:Int))) then bif (decide (0≤t5)&&decide (t5 < (t0.len:Int))) then bif (decide (0≤t5)&&decide (t5 < (t1.len:Int))) then bif ((L.get t0 t5.toNat) != (L.get t1 t5.toNat)) then some (.inr (.inl ((false,()),()))) else some (.inl ((t0,(t1,((wI (t5 + (1:Int))),()))),())) else none else none else some (.inr (.inr (.inl ((),()))))
noncomputable def s151_L0 (x:Ta58):=q151_L0 x.1.1 x.1.2.1 x.1.2.2.1
noncomputable def a151:Nat→Option LoopAnn:=fun c=>bif Nat.beq c 0 then some (.fix h151_L0 e151_L0 s151_L0) else none
noncomputable def g151 (x0:(L Int)) (x1:(L Int)):Option ((Bool×Unit)×Unit) :=
bif ((x0.len:Int) != (x1.len:Int)) then some ((false,()),()) else (fixO s151_L0 ((x0,(x1,((0:Int),()))),())).bind fun d2=>match d2 with | .inl y1=>some ((y1.1.1,()),()) | .inr (.inl y1)=>some ((true,()),()) | .inr (.inr e)=>nomatch e
noncomputable def c151:Ctr:={ ins:=[.v (.sl (.int .u32)),.v (.sl (.int .u32))],out:=[.bool],F:=fun x=>g151 x.1 x.2.1 }
noncomputable def l151:List (Nat×Code):=loopsIn (Tryz.f151.body.getD .skip) 0
theorem w151_L0:LW t151 a151 l151 0 0 h151_L0 e151_L0 s151_L0:=fun x=>by kernel_rfl
theorem o151:Holds Tryz.prog 151 c151:=fh t151 a151 Tryz.func151 [(0,lg l151 0)] ⟨fun x d h=>(w151_L0 x).trans h,trivial⟩ tn
noncomputable def t71:Tbl:=[]
abbrev h71_L0:Shape:={ slots:=[(0,.v (.sl (.int .u8))),(1,.v (.sl (.int .u8))),(5,.v (.int .i64))],boxes:=[] }
abbrev e71_L0:List (XT×Shape):=[(.ret,{ slots:=[(4,.v .bool)],boxes:=[] }),(.exit 0,{ slots:=[],boxes:=[] })]
noncomputable def q71_L0 (t0:(L Int)) (t1:(L Int)) (t5:Int):Option (Ta58⊕(((Bool×Unit)×Unit)⊕((Unit×Unit)⊕Empty))) :=
bif (decide (t5 < (t0.len:Int))) then bif (decide (0≤t5)&&decide (t5 < (t0.len:Int))) then bif (decide (0≤t5)&&decide (t5 < (t1.len:Int))) then bif ((L.get t0 t5.toNat) != (L.get t1 t5.toNat)) then some (.inr (.inl ((false,()),()))) else some (.inl ((t0,(t1,((wI (t5 + (1:Int))),()))),())) else none else none else some (.inr (.inr (.inl ((),()))))
noncomputable def s71_L0 (x:Ta58):=q71_L0 x.1.1 x.1.2.1 x.1.2.2.1
noncomputable def a71:Nat→Option LoopAnn:=fun c=>bif Nat.beq c 0 then some (.fix h71_L0 e71_L0 s71_L0) else none
noncomputable def g71 (x0:(L Int)) (x1:(L Int)):Option ((Bool×Unit)×Unit) :=
bif ((x0.len:Int) != (x1.len:Int)) then some ((false,()),()) else (fixO s71_L0 ((x0,(x1,((0:Int),()))),())).bind fun d2=>match d2 with | .inl y1=>some ((y1.1.1,()),()) | .inr (.inl y1)=>some ((true,()),()) | .inr (.inr e)=>nomatch e
noncomputable def c71:Ctr:={ ins:=[.v (.sl (.int .u8)),.v (.sl (.int .u8))],out:=[.bool],F:=fun x=>g71 x.1 x.2.1 }
noncomputable def l71:List (Nat×Code):=loopsIn (Tryz.f71.body.getD .skip) 0
theorem w71_L0:LW t71 a71 l71 0 0 h71_L0 e71_L0 s71_L0:=fun x=>by kernel_rfl
theorem o71:Holds Tryz.prog 71 c71:=fh t71 a71 Tryz.func71 [(0,lg l71 0)] ⟨fun x d h=>(w71_L0 x).trans h,trivial⟩ tn
noncomputable def t17:Tbl:=[(71,[],c71)]
abbrev h17_L0:Shape:={ slots:=[(0,.v (.sl (.sl (.int .u8)))),(1,.v (.sl (.sl (.int .u8)))),(5,.v (.int .i64))],boxes:=[] }
abbrev e17_L0:List (XT×Shape):=[(.ret,{ slots:=[(4,.v .bool)],boxes:=[] }),(.exit 0,{ slots:=[],boxes:=[] })]
noncomputable def q17_L0 (t0:(L (L Int))) (t1:(L (L Int))) (t5:Int):Option ((((L (L Int))×Ta5)×Unit)⊕(((Bool×Unit)×Unit)⊕((Unit×Unit)⊕Empty))) :=
bif (decide (t5 < (t0.len:Int))) then bif (decide (0≤t5)&&decide (t5 < (t0.len:Int))) then bif (decide (0≤t5)&&decide (t5 < (t1.len:Int))) then (g71 (L.get t0 t5.toNat) (L.get t1 t5.toNat)).bind fun y1=>bif (!y1.1.1) then some (.inr (.inl ((false,()),()))) else some (.inl ((t0,(t1,((wI (t5 + (1:Int))),()))),())) else none else none else some (.inr (.inr (.inl ((),()))))
noncomputable def s17_L0 (x:(((L (L Int))×Ta5)×Unit)):=q17_L0 x.1.1 x.1.2.1 x.1.2.2.1
noncomputable def a17:Nat→Option LoopAnn:=fun c=>bif Nat.beq c 0 then some (.fix h17_L0 e17_L0 s17_L0) else none
noncomputable def g17 (x0:(L (L Int))) (x1:(L (L Int))):Option ((Bool×Unit)×Unit) :=
bif ((x0.len:Int) != (x1.len:Int)) then some ((false,()),()) else (fixO s17_L0 ((x0,(x1,((0:Int),()))),())).bind fun d3=>match d3 with | .inl y2=>some ((y2.1.1,()),()) | .inr (.inl y2)=>some ((true,()),()) | .inr (.inr e)=>nomatch e
noncomputable def c17:Ctr:={ ins:=[.v (.sl (.sl (.int .u8))),.v (.sl (.sl (.int .u8)))],out:=[.bool],F:=fun x=>g17 x.1 x.2.1 }
noncomputable def l17:List (Nat×Code):=loopsIn (Tryz.f17.body.getD .skip) 0
theorem w17_L0:LW t17 a17 l17 0 0 h17_L0 e17_L0 s17_L0:=fun x=>by kernel_rfl
theorem o17:Holds Tryz.prog 17 c17:=fh t17 a17 Tryz.func17 [(0,lg l17 0)] ⟨fun x d h=>(w17_L0 x).trans h,trivial⟩ (tc o71 tn)
noncomputable def t57:Tbl:=[(151,[],c151),(17,[],c17)]
noncomputable def g57 (x0:Ta46) (x1:Ta46):Option ((Bool×Unit)×Unit) :=
(g151 x0.1 x1.1).bind fun y1=>bif (!y1.1.1) then some ((false,()),()) else bif (x0.2.1 != x1.2.1) then some ((false,()),()) else (g17 x0.2.2.1 x1.2.2.1).bind fun y2=>bif (!y2.1.1) then some ((false,()),()) else some ((true,()),())
noncomputable def c57:Ctr:={ ins:=[.v Ty162,.v Ty162],out:=[.bool],F:=fun x=>g57 x.1 x.2.1 }
theorem o57:Holds Tryz.prog 57 c57:=f0 t57 Tryz.func57 (tc o151 (tc o17 tn))
noncomputable def t58:Tbl:=[]
noncomputable def g58 (x0:Ta116) (x1:Ta116):Option ((Bool×Unit)×Unit) :=
bif (!(x0.1 == x1.1)) then some ((false,()),()) else bif (x0.2.1 != x1.2.1) then some ((false,()),()) else bif (x0.2.2.1 != x1.2.2.1) then some ((false,()),()) else bif (x0.2.2.2.1 != x1.2.2.2.1) then some ((false,()),()) else bif (x0.2.2.2.2.1 != x1.2.2.2.2.1) then some ((false,()),()) else bif (!(x0.2.2.2.2.2.1 == x1.2.2.2.2.2.1)) then some ((false,()),()) else bif (!(x0.2.2.2.2.2.2.1 == x1.2.2.2.2.2.2.1)) then some ((false,()),()) else bif (x0.2.2.2.2.2.2.2.1 != x1.2.2.2.2.2.2.2.1) then some ((false,()),()) else some ((true,()),())
noncomputable def f58 (x0:Ta116) (x1:Ta116):Bool :=
bif (!(x0.1 == x1.1)) then false else bif (x0.2.1 != x1.2.1) then false else bif (x0.2.2.1 != x1.2.2.1) then false else bif (x0.2.2.2.1 != x1.2.2.2.1) then false else bif (x0.2.2.2.2.1 != x1.2.2.2.2.1) then false else bif (!(x0.2.2.2.2.2.1 == x1.2.2.2.2.2.1)) then false else bif (!(x0.2.2.2.2.2.2.1 == x1.2.2.2.2.2.2.1)) then false else bif (x0.2.2.2.2.2.2.2.1 != x1.2.2.2.2.2.2.2.1) then false else true
theorem n58 (x0:Ta116) (x1:Ta116):g58 x0 x1 = some ((f58 x0 x1,()),()):=by simp only [g58,f58,pull1]
noncomputable def c58:Ctr:={ ins:=[.v Ty242,.v Ty242],out:=[.bool],F:=fun x=>some ((f58 x.1 x.2.1,()),()) }
theorem o58:Holds Tryz.prog 58 c58:=f0T t58 (fun x=>g58 x.1 x.2.1) Tryz.func58 tn (fun x=>n58 x.1 x.2.1)
noncomputable def t59:Tbl:=[]
noncomputable def g59 (x0:Ta24) (x1:Ta24):Option ((Bool×Unit)×Unit) :=
bif (x0.1 != x1.1) then some ((false,()),()) else bif (x0.2.1 != x1.2.1) then some ((false,()),()) else bif (x0.2.2.1 != x1.2.2.1) then some ((false,()),()) else bif (!(x0.2.2.2.1 == x1.2.2.2.1)) then some ((false,()),()) else some ((true,()),())
noncomputable def f59 (x0:Ta24) (x1:Ta24):Bool :=
bif (x0.1 != x1.1) then false else bif (x0.2.1 != x1.2.1) then false else bif (x0.2.2.1 != x1.2.2.1) then false else bif (!(x0.2.2.2.1 == x1.2.2.2.1)) then false else true
theorem n59 (x0:Ta24) (x1:Ta24):g59 x0 x1 = some ((f59 x0 x1,()),()):=by simp only [g59,f59,pull1]
noncomputable def c59:Ctr:={ ins:=[.v Ty159,.v Ty159],out:=[.bool],F:=fun x=>some ((f59 x.1 x.2.1,()),()) }
theorem o59:Holds Tryz.prog 59 c59:=f0T t59 (fun x=>g59 x.1 x.2.1) Tryz.func59 tn (fun x=>n59 x.1 x.2.1)
noncomputable def t65:Tbl:=[]
noncomputable def g65 (x0:(Int×(Int×(Int×Unit)))) (x1:(Int×(Int×(Int×Unit)))):Option ((Bool×Unit)×Unit) :=
bif (x0.1 != x1.1) then some ((false,()),()) else bif (x0.2.1 != x1.2.1) then some ((false,()),()) else bif (x0.2.2.1 != x1.2.2.1) then some ((false,()),()) else some ((true,()),())
noncomputable def f65 (x0:(Int×(Int×(Int×Unit)))) (x1:(Int×(Int×(Int×Unit)))):Bool :=
bif (x0.1 != x1.1) then false else bif (x0.2.1 != x1.2.1) then false else bif (x0.2.2.1 != x1.2.2.1) then false else true
theorem n65 (x0:(Int×(Int×(Int×Unit)))) (x1:(Int×(Int×(Int×Unit)))):g65 x0 x1 = some ((f65 x0 x1,()),()):=by simp only [g65,f65,pull1]
noncomputable def c65:Ctr:={ ins:=[.v Ty135,.v Ty135],out:=[.bool],F:=fun x=>some ((f65 x.1 x.2.1,()),()) }
theorem o65:Holds Tryz.prog 65 c65:=f0T t65 (fun x=>g65 x.1 x.2.1) Tryz.func65 tn (fun x=>n65 x.1 x.2.1)
noncomputable def t306:Tbl:=[]
noncomputable def g306 (x0:(Int×(Bool×Unit))) (x1:(Int×(Bool×Unit))):Option ((Bool×Unit)×Unit) :=
bif (x0.1 != x1.1) then some ((false,()),()) else bif (!(x0.2.1 == x1.2.1)) then some ((false,()),()) else some ((true,()),())
noncomputable def f306 (x0:(Int×(Bool×Unit))) (x1:(Int×(Bool×Unit))):Bool :=
bif (x0.1 != x1.1) then false else bif (!(x0.2.1 == x1.2.1)) then false else true
theorem n306 (x0:(Int×(Bool×Unit))) (x1:(Int×(Bool×Unit))):g306 x0 x1 = some ((f306 x0 x1,()),()):=by simp only [g306,f306,pull1]
noncomputable def c306:Ctr:={ ins:=[.v Ty61,.v Ty61],out:=[.bool],F:=fun x=>some ((f306 x.1 x.2.1,()),()) }
theorem o306:Holds Tryz.prog 306 c306:=f0T t306 (fun x=>g306 x.1 x.2.1) Tryz.func306 tn (fun x=>n306 x.1 x.2.1)
noncomputable def t242:Tbl:=[(306,[],c306)]
abbrev h242_L0:Shape:={ slots:=[(0,.v Ty80),(1,.v Ty80),(5,.v (.int .i64))],boxes:=[] }
abbrev e242_L0:List (XT×Shape):=[(.ret,{ slots:=[(4,.v .bool)],boxes:=[] }),(.exit 0,{ slots:=[],boxes:=[] })]
noncomputable def q242_L0 (t0:(L (Int×(Bool×Unit)))) (t1:(L (Int×(Bool×Unit)))) (t5:Int):Option ((((L (Int×(Bool×Unit)))×Ta48)×Unit)⊕(((Bool×Unit)×Unit)⊕((Unit×Unit)⊕Empty))) :=
bif (decide (t5 < (t0.len:Int))) then bif (decide (0≤t5)&&decide (t5 < (t0.len:Int))) then bif (decide (0≤t5)&&decide (t5 < (t1.len:Int))) then bif (!(f306 (L.get t0 t5.toNat) (L.get t1 t5.toNat))) then some (.inr (.inl ((false,()),()))) else some (.inl ((t0,(t1,((wI (t5 + (1:Int))),()))),())) else none else none else some (.inr (.inr (.inl ((),()))))
noncomputable def s242_L0 (x:(((L (Int×(Bool×Unit)))×Ta48)×Unit)):=q242_L0 x.1.1 x.1.2.1 x.1.2.2.1
noncomputable def a242:Nat→Option LoopAnn:=fun c=>bif Nat.beq c 0 then some (.fix h242_L0 e242_L0 s242_L0) else none
noncomputable def g242 (x0:(L (Int×(Bool×Unit)))) (x1:(L (Int×(Bool×Unit)))):Option ((Bool×Unit)×Unit) :=
bif ((x0.len:Int) != (x1.len:Int)) then some ((false,()),()) else (fixO s242_L0 ((x0,(x1,((0:Int),()))),())).bind fun d2=>match d2 with | .inl y1=>some ((y1.1.1,()),()) | .inr (.inl y1)=>some ((true,()),()) | .inr (.inr e)=>nomatch e
noncomputable def c242:Ctr:={ ins:=[.v Ty80,.v Ty80],out:=[.bool],F:=fun x=>g242 x.1 x.2.1 }
noncomputable def l242:List (Nat×Code):=loopsIn (Tryz.f242.body.getD .skip) 0
theorem w242_L0:LW t242 a242 l242 0 0 h242_L0 e242_L0 s242_L0:=fun x=>by kernel_rfl
theorem o242:Holds Tryz.prog 242 c242:=fh t242 a242 Tryz.func242 [(0,lg l242 0)] ⟨fun x d h=>(w242_L0 x).trans h,trivial⟩ (tc o306 tn)
noncomputable def t152:Tbl:=[(242,[],c242)]
abbrev h152_L0:Shape:={ slots:=[(0,.v Ty101),(1,.v Ty101),(5,.v (.int .i64))],boxes:=[] }
abbrev e152_L0:List (XT×Shape):=[(.ret,{ slots:=[(4,.v .bool)],boxes:=[] }),(.exit 0,{ slots:=[],boxes:=[] })]
noncomputable def q152_L0 (t0:Ta7) (t1:Ta7) (t5:Int):Option (((Ta7×(Ta7×(Int×Unit)))×Unit)⊕(((Bool×Unit)×Unit)⊕((Unit×Unit)⊕Empty))) :=
bif (decide (t5 < (t0.len:Int))) then bif (decide (0≤t5)&&decide (t5 < (t0.len:Int))) then bif (decide (0≤t5)&&decide (t5 < (t1.len:Int))) then (g242 (L.get t0 t5.toNat) (L.get t1 t5.toNat)).bind fun y1=>bif (!y1.1.1) then some (.inr (.inl ((false,()),()))) else some (.inl ((t0,(t1,((wI (t5 + (1:Int))),()))),())) else none else none else some (.inr (.inr (.inl ((),()))))
noncomputable def s152_L0 (x:((Ta7×(Ta7×(Int×Unit)))×Unit)):=q152_L0 x.1.1 x.1.2.1 x.1.2.2.1
noncomputable def a152:Nat→Option LoopAnn:=fun c=>bif Nat.beq c 0 then some (.fix h152_L0 e152_L0 s152_L0) else none
noncomputable def g152 (x0:Ta7) (x1:Ta7):Option ((Bool×Unit)×Unit) :=
bif ((x0.len:Int) != (x1.len:Int)) then some ((false,()),()) else (fixO s152_L0 ((x0,(x1,((0:Int),()))),())).bind fun d3=>match d3 with | .inl y2=>some ((y2.1.1,()),()) | .inr (.inl y2)=>some ((true,()),()) | .inr (.inr e)=>nomatch e
noncomputable def c152:Ctr:={ ins:=[.v Ty101,.v Ty101],out:=[.bool],F:=fun x=>g152 x.1 x.2.1 }
noncomputable def l152:List (Nat×Code):=loopsIn (Tryz.f152.body.getD .skip) 0
theorem w152_L0:LW t152 a152 l152 0 0 h152_L0 e152_L0 s152_L0:=fun x=>by kernel_rfl
theorem o152:Holds Tryz.prog 152 c152:=fh t152 a152 Tryz.func152 [(0,lg l152 0)] ⟨fun x d h=>(w152_L0 x).trans h,trivial⟩ (tc o242 tn)
noncomputable def t60:Tbl:=[(65,[],c65),(152,[],c152)]
noncomputable def g60 (x0:Ta122) (x1:Ta122):Option ((Bool×Unit)×Unit) :=
bif (!(f65 x0.1 x1.1)) then some ((false,()),()) else (g152 x0.2.1 x1.2.1).bind fun y1=>bif (!y1.1.1) then some ((false,()),()) else some ((true,()),())
noncomputable def c60:Ctr:={ ins:=[.v Ty234,.v Ty234],out:=[.bool],F:=fun x=>g60 x.1 x.2.1 }
theorem o60:Holds Tryz.prog 60 c60:=f0 t60 Tryz.func60 (tc o65 (tc o152 tn))
noncomputable def t68:Tbl:=[]
abbrev h68_L0:Shape:={ slots:=[(0,.v (.sl (.int .i64))),(1,.v (.sl (.int .i64))),(5,.v (.int .i64))],boxes:=[] }
abbrev e68_L0:List (XT×Shape):=[(.ret,{ slots:=[(4,.v .bool)],boxes:=[] }),(.exit 0,{ slots:=[],boxes:=[] })]
noncomputable def q68_L0 (t0:(L Int)) (t1:(L Int)) (t5:Int):Option (Ta58⊕(((Bool×Unit)×Unit)⊕((Unit×Unit)⊕Empty))) :=
bif (decide (t5 < (t0.len:Int))) then bif (decide (0≤t5)&&decide (t5 < (t0.len:Int))) then bif (decide (0≤t5)&&decide (t5 < (t1.len:Int))) then bif ((L.get t0 t5.toNat) != (L.get t1 t5.toNat)) then some (.inr (.inl ((false,()),()))) else some (.inl ((t0,(t1,((wI (t5 + (1:Int))),()))),())) else none else none else some (.inr (.inr (.inl ((),()))))
noncomputable def s68_L0 (x:Ta58):=q68_L0 x.1.1 x.1.2.1 x.1.2.2.1
noncomputable def a68:Nat→Option LoopAnn:=fun c=>bif Nat.beq c 0 then some (.fix h68_L0 e68_L0 s68_L0) else none
noncomputable def g68 (x0:(L Int)) (x1:(L Int)):Option ((Bool×Unit)×Unit) :=
bif ((x0.len:Int) != (x1.len:Int)) then some ((false,()),()) else (fixO s68_L0 ((x0,(x1,((0:Int),()))),())).bind fun d2=>match d2 with | .inl y1=>some ((y1.1.1,()),()) | .inr (.inl y1)=>some ((true,()),()) | .inr (.inr e)=>nomatch e
noncomputable def c68:Ctr:={ ins:=[.v (.sl (.int .i64)),.v (.sl (.int .i64))],out:=[.bool],F:=fun x=>g68 x.1 x.2.1 }
noncomputable def l68:List (Nat×Code):=loopsIn (Tryz.f68.body.getD .skip) 0
theorem w68_L0:LW t68 a68 l68 0 0 h68_L0 e68_L0 s68_L0:=fun x=>by kernel_rfl
theorem o68:Holds Tryz.prog 68 c68:=fh t68 a68 Tryz.func68 [(0,lg l68 0)] ⟨fun x d h=>(w68_L0 x).trans h,trivial⟩ tn
noncomputable def t61:Tbl:=[(68,[],c68)]
noncomputable def g61 (x0:(Int×((L Int)×Unit))) (x1:(Int×((L Int)×Unit))):Option ((Bool×Unit)×Unit) :=
bif (x0.1 != x1.1) then some ((false,()),()) else (g68 x0.2.1 x1.2.1).bind fun y1=>bif (!y1.1.1) then some ((false,()),()) else some ((true,()),())
noncomputable def c61:Ctr:={ ins:=[.v Ty103,.v Ty103],out:=[.bool],F:=fun x=>g61 x.1 x.2.1 }
theorem o61:Holds Tryz.prog 61 c61:=f0 t61 Tryz.func61 (tc o68 tn)
noncomputable def t153:Tbl:=[(151,[],c151)]
noncomputable def g153 (x0:(Int×((L Int)×Unit))) (x1:(Int×((L Int)×Unit))):Option ((Bool×Unit)×Unit) :=
bif (x0.1 != x1.1) then some ((false,()),()) else (g151 x0.2.1 x1.2.1).bind fun y1=>bif (!y1.1.1) then some ((false,()),()) else some ((true,()),())
noncomputable def c153:Ctr:={ ins:=[.v Ty100,.v Ty100],out:=[.bool],F:=fun x=>g153 x.1 x.2.1 }
theorem o153:Holds Tryz.prog 153 c153:=f0 t153 Tryz.func153 (tc o151 tn)
noncomputable def t62:Tbl:=[(153,[],c153)]
abbrev h62_L0:Shape:={ slots:=[(0,.v Ty123),(1,.v Ty123),(5,.v (.int .i64))],boxes:=[] }
abbrev e62_L0:List (XT×Shape):=[(.ret,{ slots:=[(4,.v .bool)],boxes:=[] }),(.exit 0,{ slots:=[],boxes:=[] })]
noncomputable def q62_L0 (t0:Ta1) (t1:Ta1) (t5:Int):Option (((Ta1×(Ta1×(Int×Unit)))×Unit)⊕(((Bool×Unit)×Unit)⊕((Unit×Unit)⊕Empty))) :=
bif (decide (t5 < (t0.len:Int))) then bif (decide (0≤t5)&&decide (t5 < (t0.len:Int))) then bif (decide (0≤t5)&&decide (t5 < (t1.len:Int))) then (g153 (L.get t0 t5.toNat) (L.get t1 t5.toNat)).bind fun y1=>bif (!y1.1.1) then some (.inr (.inl ((false,()),()))) else some (.inl ((t0,(t1,((wI (t5 + (1:Int))),()))),())) else none else none else some (.inr (.inr (.inl ((),()))))
noncomputable def s62_L0 (x:((Ta1×(Ta1×(Int×Unit)))×Unit)):=q62_L0 x.1.1 x.1.2.1 x.1.2.2.1
noncomputable def a62:Nat→Option LoopAnn:=fun c=>bif Nat.beq c 0 then some (.fix h62_L0 e62_L0 s62_L0) else none
noncomputable def g62 (x0:Ta1) (x1:Ta1):Option ((Bool×Unit)×Unit) :=
bif ((x0.len:Int) != (x1.len:Int)) then some ((false,()),()) else (fixO s62_L0 ((x0,(x1,((0:Int),()))),())).bind fun d3=>match d3 with | .inl y2=>some ((y2.1.1,()),()) | .inr (.inl y2)=>some ((true,()),()) | .inr (.inr e)=>nomatch e
noncomputable def c62:Ctr:={ ins:=[.v Ty123,.v Ty123],out:=[.bool],F:=fun x=>g62 x.1 x.2.1 }
noncomputable def l62:List (Nat×Code):=loopsIn (Tryz.f62.body.getD .skip) 0
theorem w62_L0:LW t62 a62 l62 0 0 h62_L0 e62_L0 s62_L0:=fun x=>by kernel_rfl
theorem o62:Holds Tryz.prog 62 c62:=fh t62 a62 Tryz.func62 [(0,lg l62 0)] ⟨fun x d h=>(w62_L0 x).trans h,trivial⟩ (tc o153 tn)
noncomputable def t154:Tbl:=[(151,[],c151)]
noncomputable def g154 (x0:((L Int)×Unit)) (x1:((L Int)×Unit)):Option ((Bool×Unit)×Unit) :=
(g151 x0.1 x1.1).bind fun y1=>bif (!y1.1.1) then some ((false,()),()) else some ((true,()),())
noncomputable def c154:Ctr:={ ins:=[.v Ty33,.v Ty33],out:=[.bool],F:=fun x=>g154 x.1 x.2.1 }
theorem o154:Holds Tryz.prog 154 c154:=f0 t154 Tryz.func154 (tc o151 tn)
noncomputable def t63:Tbl:=[(154,[],c154)]
abbrev h63_L0:Shape:={ slots:=[(0,.v Ty54),(1,.v Ty54),(5,.v (.int .i64))],boxes:=[] }
abbrev e63_L0:List (XT×Shape):=[(.ret,{ slots:=[(4,.v .bool)],boxes:=[] }),(.exit 0,{ slots:=[],boxes:=[] })]
noncomputable def q63_L0 (t0:(L ((L Int)×Unit))) (t1:(L ((L Int)×Unit))) (t5:Int):Option ((((L ((L Int)×Unit))×((L ((L Int)×Unit))×(Int×Unit)))×Unit)⊕(((Bool×Unit)×Unit)⊕((Unit×Unit)⊕Empty))) :=
bif (decide (t5 < (t0.len:Int))) then bif (decide (0≤t5)&&decide (t5 < (t0.len:Int))) then bif (decide (0≤t5)&&decide (t5 < (t1.len:Int))) then (g154 (L.get t0 t5.toNat) (L.get t1 t5.toNat)).bind fun y1=>bif (!y1.1.1) then some (.inr (.inl ((false,()),()))) else some (.inl ((t0,(t1,((wI (t5 + (1:Int))),()))),())) else none else none else some (.inr (.inr (.inl ((),()))))
noncomputable def s63_L0 (x:(((L ((L Int)×Unit))×((L ((L Int)×Unit))×(Int×Unit)))×Unit)):=q63_L0 x.1.1 x.1.2.1 x.1.2.2.1
noncomputable def a63:Nat→Option LoopAnn:=fun c=>bif Nat.beq c 0 then some (.fix h63_L0 e63_L0 s63_L0) else none
noncomputable def g63 (x0:(L ((L Int)×Unit))) (x1:(L ((L Int)×Unit))):Option ((Bool×Unit)×Unit) :=
bif ((x0.len:Int) != (x1.len:Int)) then some ((false,()),()) else (fixO s63_L0 ((x0,(x1,((0:Int),()))),())).bind fun d3=>match d3 with | .inl y2=>some ((y2.1.1,()),()) | .inr (.inl y2)=>some ((true,()),()) | .inr (.inr e)=>nomatch e
noncomputable def c63:Ctr:={ ins:=[.v Ty54,.v Ty54],out:=[.bool],F:=fun x=>g63 x.1 x.2.1 }
noncomputable def l63:List (Nat×Code):=loopsIn (Tryz.f63.body.getD .skip) 0
theorem w63_L0:LW t63 a63 l63 0 0 h63_L0 e63_L0 s63_L0:=fun x=>by kernel_rfl
theorem o63:Holds Tryz.prog 63 c63:=fh t63 a63 Tryz.func63 [(0,lg l63 0)] ⟨fun x d h=>(w63_L0 x).trans h,trivial⟩ (tc o154 tn)
noncomputable def t155:Tbl:=[(151,[],c151)]
noncomputable def g155 (x0:Ta2) (x1:Ta2):Option ((Bool×Unit)×Unit) :=
(g151 x0.1 x1.1).bind fun y1=>bif (!y1.1.1) then some ((false,()),()) else (g151 x0.2.1 x1.2.1).bind fun y2=>bif (!y2.1.1) then some ((false,()),()) else some ((true,()),())
noncomputable def c155:Ctr:={ ins:=[.v Ty121,.v Ty121],out:=[.bool],F:=fun x=>g155 x.1 x.2.1 }
theorem o155:Holds Tryz.prog 155 c155:=f0 t155 Tryz.func155 (tc o151 tn)
noncomputable def t64:Tbl:=[(155,[],c155)]
abbrev h64_L0:Shape:={ slots:=[(0,.v Ty131),(1,.v Ty131),(5,.v (.int .i64))],boxes:=[] }
abbrev e64_L0:List (XT×Shape):=[(.ret,{ slots:=[(4,.v .bool)],boxes:=[] }),(.exit 0,{ slots:=[],boxes:=[] })]
noncomputable def q64_L0 (t0:Ta20) (t1:Ta20) (t5:Int):Option (((Ta20×(Ta20×(Int×Unit)))×Unit)⊕(((Bool×Unit)×Unit)⊕((Unit×Unit)⊕Empty))) :=
bif (decide (t5 < (t0.len:Int))) then bif (decide (0≤t5)&&decide (t5 < (t0.len:Int))) then bif (decide (0≤t5)&&decide (t5 < (t1.len:Int))) then (g155 (L.get t0 t5.toNat) (L.get t1 t5.toNat)).bind fun y1=>bif (!y1.1.1) then some (.inr (.inl ((false,()),()))) else some (.inl ((t0,(t1,((wI (t5 + (1:Int))),()))),())) else none else none else some (.inr (.inr (.inl ((),()))))
noncomputable def s64_L0 (x:((Ta20×(Ta20×(Int×Unit)))×Unit)):=q64_L0 x.1.1 x.1.2.1 x.1.2.2.1
noncomputable def a64:Nat→Option LoopAnn:=fun c=>bif Nat.beq c 0 then some (.fix h64_L0 e64_L0 s64_L0) else none
noncomputable def g64 (x0:Ta20) (x1:Ta20):Option ((Bool×Unit)×Unit) :=
bif ((x0.len:Int) != (x1.len:Int)) then some ((false,()),()) else (fixO s64_L0 ((x0,(x1,((0:Int),()))),())).bind fun d3=>match d3 with | .inl y2=>some ((y2.1.1,()),()) | .inr (.inl y2)=>some ((true,()),()) | .inr (.inr e)=>nomatch e
noncomputable def c64:Ctr:={ ins:=[.v Ty131,.v Ty131],out:=[.bool],F:=fun x=>g64 x.1 x.2.1 }
noncomputable def l64:List (Nat×Code):=loopsIn (Tryz.f64.body.getD .skip) 0
theorem w64_L0:LW t64 a64 l64 0 0 h64_L0 e64_L0 s64_L0:=fun x=>by kernel_rfl
theorem o64:Holds Tryz.prog 64 c64:=fh t64 a64 Tryz.func64 [(0,lg l64 0)] ⟨fun x d h=>(w64_L0 x).trans h,trivial⟩ (tc o155 tn)
noncomputable def t15:Tbl:=[(57,[],c57),(58,[],c58),(59,[],c59),(60,[],c60),(61,[],c61),(17,[],c17),(62,[],c62),(63,[],c63),(64,[],c64)]
noncomputable def g15 (x0:Ta357) (x1:Ta357):Option ((Bool×Unit)×Unit) :=
(g57 x0.1 x1.1).bind fun y1=>bif (!y1.1.1) then some ((false,()),()) else bif (!(f58 x0.2.1 x1.2.1)) then some ((false,()),()) else bif (!(f59 x0.2.2.1 x1.2.2.1)) then some ((false,()),()) else (g60 x0.2.2.2.1 x1.2.2.2.1).bind fun y2=>bif (!y2.1.1) then some ((false,()),()) else (g61 x0.2.2.2.2.1 x1.2.2.2.2.1).bind fun y3=>bif (!y3.1.1) then some ((false,()),()) else bif (x0.2.2.2.2.2.1 != x1.2.2.2.2.2.1) then some ((false,()),()) else bif (!(x0.2.2.2.2.2.2.1 == x1.2.2.2.2.2.2.1)) then some ((false,()),()) else (g17 x0.2.2.2.2.2.2.2.1 x1.2.2.2.2.2.2.2.1).bind fun y4=>bif (!y4.1.1) then some ((false,()),()) else (g62 x0.2.2.2.2.2.2.2.2.1 x1.2.2.2.2.2.2.2.2.1).bind fun y5=>bif (!y5.1.1) then some ((false,()),()) else (g63 x0.2.2.2.2.2.2.2.2.2.1 x1.2.2.2.2.2.2.2.2.2.1).bind fun y6=>bif (!y6.1.1) then some ((false,()),()) else (g64 x0.2.2.2.2.2.2.2.2.2.2.1 x1.2.2.2.2.2.2.2.2.2.2.1).bind fun y7=>bif (!y7.1.1) then some ((false,()),()) else some ((true,()),())
noncomputable def c15:Ctr:={ ins:=[.v Ty380,.v Ty380],out:=[.bool],F:=fun x=>g15 x.1 x.2.1 }
theorem o15:Holds Tryz.prog 15 c15:=f0 t15 Tryz.func15 (tc o57 (tc o58 (tc o59 (tc o60 (tc o61 (tc o17 (tc o62 (tc o63 (tc o64 tn)))))))))
noncomputable def t66:Tbl:=[]
noncomputable def g66 (x0:Ta85) (x1:Ta85):Option ((Bool×Unit)×Unit) :=
bif (x0.1 != x1.1) then some ((false,()),()) else bif (x0.2.1 != x1.2.1) then some ((false,()),()) else bif (x0.2.2.1 != x1.2.2.1) then some ((false,()),()) else bif (x0.2.2.2.1 != x1.2.2.2.1) then some ((false,()),()) else bif (x0.2.2.2.2.1 != x1.2.2.2.2.1) then some ((false,()),()) else bif (x0.2.2.2.2.2.1 != x1.2.2.2.2.2.1) then some ((false,()),()) else bif (x0.2.2.2.2.2.2.1 != x1.2.2.2.2.2.2.1) then some ((false,()),()) else some ((true,()),())
noncomputable def f66 (x0:Ta85) (x1:Ta85):Bool :=
bif (x0.1 != x1.1) then false else bif (x0.2.1 != x1.2.1) then false else bif (x0.2.2.1 != x1.2.2.1) then false else bif (x0.2.2.2.1 != x1.2.2.2.1) then false else bif (x0.2.2.2.2.1 != x1.2.2.2.2.1) then false else bif (x0.2.2.2.2.2.1 != x1.2.2.2.2.2.1) then false else bif (x0.2.2.2.2.2.2.1 != x1.2.2.2.2.2.2.1) then false else true
theorem n66 (x0:Ta85) (x1:Ta85):g66 x0 x1 = some ((f66 x0 x1,()),()):=by simp only [g66,f66,pull1]
noncomputable def c66:Ctr:={ ins:=[.v Ty238,.v Ty238],out:=[.bool],F:=fun x=>some ((f66 x.1 x.2.1,()),()) }
theorem o66:Holds Tryz.prog 66 c66:=f0T t66 (fun x=>g66 x.1 x.2.1) Tryz.func66 tn (fun x=>n66 x.1 x.2.1)
noncomputable def t243:Tbl:=[]
noncomputable def g243 (x0:(Int×(Int×Unit))) (x1:(Int×(Int×Unit))):Option ((Bool×Unit)×Unit) :=
bif (x0.1 != x1.1) then some ((false,()),()) else bif (x0.2.1 != x1.2.1) then some ((false,()),()) else some ((true,()),())
noncomputable def f243 (x0:(Int×(Int×Unit))) (x1:(Int×(Int×Unit))):Bool :=
bif (x0.1 != x1.1) then false else bif (x0.2.1 != x1.2.1) then false else true
theorem n243 (x0:(Int×(Int×Unit))) (x1:(Int×(Int×Unit))):g243 x0 x1 = some ((f243 x0 x1,()),()):=by simp only [g243,f243,pull1]
noncomputable def c243:Ctr:={ ins:=[.v Ty81,.v Ty81],out:=[.bool],F:=fun x=>some ((f243 x.1 x.2.1,()),()) }
theorem o243:Holds Tryz.prog 243 c243:=f0T t243 (fun x=>g243 x.1 x.2.1) Tryz.func243 tn (fun x=>n243 x.1 x.2.1)
noncomputable def t307:Tbl:=[]
noncomputable def g307 (x0:(Int×(Int×(Int×Unit)))) (x1:(Int×(Int×(Int×Unit)))):Option ((Bool×Unit)×Unit) :=
bif (x0.1 != x1.1) then some ((false,()),()) else bif (x0.2.1 != x1.2.1) then some ((false,()),()) else bif (x0.2.2.1 != x1.2.2.1) then some ((false,()),()) else some ((true,()),())
noncomputable def f307 (x0:(Int×(Int×(Int×Unit)))) (x1:(Int×(Int×(Int×Unit)))):Bool :=
bif (x0.1 != x1.1) then false else bif (x0.2.1 != x1.2.1) then false else bif (x0.2.2.1 != x1.2.2.1) then false else true
theorem n307 (x0:(Int×(Int×(Int×Unit)))) (x1:(Int×(Int×(Int×Unit)))):g307 x0 x1 = some ((f307 x0 x1,()),()):=by simp only [g307,f307,pull1]
noncomputable def c307:Ctr:={ ins:=[.v Ty135,.v Ty135],out:=[.bool],F:=fun x=>some ((f307 x.1 x.2.1,()),()) }
theorem o307:Holds Tryz.prog 307 c307:=f0T t307 (fun x=>g307 x.1 x.2.1) Tryz.func307 tn (fun x=>n307 x.1 x.2.1)
noncomputable def t244:Tbl:=[(307,[],c307)]
abbrev h244_L0:Shape:={ slots:=[(0,.v Ty145),(1,.v Ty145),(5,.v (.int .i64))],boxes:=[] }
abbrev e244_L0:List (XT×Shape):=[(.ret,{ slots:=[(4,.v .bool)],boxes:=[] }),(.exit 0,{ slots:=[],boxes:=[] })]
noncomputable def q244_L0 (t0:Ta14) (t1:Ta14) (t5:Int):Option (Ta150⊕(((Bool×Unit)×Unit)⊕((Unit×Unit)⊕Empty))) :=
bif (decide (t5 < (t0.len:Int))) then bif (decide (0≤t5)&&decide (t5 < (t0.len:Int))) then bif (decide (0≤t5)&&decide (t5 < (t1.len:Int))) then bif (!(f307 (L.get t0 t5.toNat) (L.get t1 t5.toNat))) then some (.inr (.inl ((false,()),()))) else some (.inl ((t0,(t1,((wI (t5 + (1:Int))),()))),())) else none else none else some (.inr (.inr (.inl ((),()))))
noncomputable def s244_L0 (x:Ta150):=q244_L0 x.1.1 x.1.2.1 x.1.2.2.1
noncomputable def a244:Nat→Option LoopAnn:=fun c=>bif Nat.beq c 0 then some (.fix h244_L0 e244_L0 s244_L0) else none
noncomputable def g244 (x0:Ta14) (x1:Ta14):Option ((Bool×Unit)×Unit) :=
bif ((x0.len:Int) != (x1.len:Int)) then some ((false,()),()) else (fixO s244_L0 ((x0,(x1,((0:Int),()))),())).bind fun d2=>match d2 with | .inl y1=>some ((y1.1.1,()),()) | .inr (.inl y1)=>some ((true,()),()) | .inr (.inr e)=>nomatch e
noncomputable def c244:Ctr:={ ins:=[.v Ty145,.v Ty145],out:=[.bool],F:=fun x=>g244 x.1 x.2.1 }
noncomputable def l244:List (Nat×Code):=loopsIn (Tryz.f244.body.getD .skip) 0
theorem w244_L0:LW t244 a244 l244 0 0 h244_L0 e244_L0 s244_L0:=fun x=>by kernel_rfl
theorem o244:Holds Tryz.prog 244 c244:=fh t244 a244 Tryz.func244 [(0,lg l244 0)] ⟨fun x d h=>(w244_L0 x).trans h,trivial⟩ (tc o307 tn)
noncomputable def t156:Tbl:=[(243,[],c243),(244,[],c244)]
noncomputable def g156 (x0:Ta143) (x1:Ta143):Option ((Bool×Unit)×Unit) :=
bif (!strEq x0.1 x1.1) then some ((false,()),()) else bif (x0.2.1 != x1.2.1) then some ((false,()),()) else bif (!(f243 x0.2.2.1 x1.2.2.1)) then some ((false,()),()) else (g244 x0.2.2.2.1 x1.2.2.2.1).bind fun y1=>bif (!y1.1.1) then some ((false,()),()) else some ((true,()),())
noncomputable def c156:Ctr:={ ins:=[.v Ty268,.v Ty268],out:=[.bool],F:=fun x=>g156 x.1 x.2.1 }
theorem o156:Holds Tryz.prog 156 c156:=f0 t156 Tryz.func156 (tc o243 (tc o244 tn))
noncomputable def t67:Tbl:=[(156,[],c156)]
abbrev h67_L0:Shape:={ slots:=[(0,.v Ty276),(1,.v Ty276),(5,.v (.int .i64))],boxes:=[] }
abbrev e67_L0:List (XT×Shape):=[(.ret,{ slots:=[(4,.v .bool)],boxes:=[] }),(.exit 0,{ slots:=[],boxes:=[] })]
noncomputable def q67_L0 (t0:Ta149) (t1:Ta149) (t5:Int):Option (((Ta149×(Ta149×(Int×Unit)))×Unit)⊕(((Bool×Unit)×Unit)⊕((Unit×Unit)⊕Empty))) :=
bif (decide (t5 < (t0.len:Int))) then bif (decide (0≤t5)&&decide (t5 < (t0.len:Int))) then bif (decide (0≤t5)&&decide (t5 < (t1.len:Int))) then (g156 (L.get t0 t5.toNat) (L.get t1 t5.toNat)).bind fun y1=>bif (!y1.1.1) then some (.inr (.inl ((false,()),()))) else some (.inl ((t0,(t1,((wI (t5 + (1:Int))),()))),())) else none else none else some (.inr (.inr (.inl ((),()))))
noncomputable def s67_L0 (x:((Ta149×(Ta149×(Int×Unit)))×Unit)):=q67_L0 x.1.1 x.1.2.1 x.1.2.2.1
noncomputable def a67:Nat→Option LoopAnn:=fun c=>bif Nat.beq c 0 then some (.fix h67_L0 e67_L0 s67_L0) else none
noncomputable def g67 (x0:Ta149) (x1:Ta149):Option ((Bool×Unit)×Unit) :=
bif ((x0.len:Int) != (x1.len:Int)) then some ((false,()),()) else (fixO s67_L0 ((x0,(x1,((0:Int),()))),())).bind fun d3=>match d3 with | .inl y2=>some ((y2.1.1,()),()) | .inr (.inl y2)=>some ((true,()),()) | .inr (.inr e)=>nomatch e
noncomputable def c67:Ctr:={ ins:=[.v Ty276,.v Ty276],out:=[.bool],F:=fun x=>g67 x.1 x.2.1 }
noncomputable def l67:List (Nat×Code):=loopsIn (Tryz.f67.body.getD .skip) 0
theorem w67_L0:LW t67 a67 l67 0 0 h67_L0 e67_L0 s67_L0:=fun x=>by kernel_rfl
theorem o67:Holds Tryz.prog 67 c67:=fh t67 a67 Tryz.func67 [(0,lg l67 0)] ⟨fun x d h=>(w67_L0 x).trans h,trivial⟩ (tc o156 tn)
noncomputable def t157:Tbl:=[]
noncomputable def g157 (x0:Ta19) (x1:Ta19):Option ((Bool×Unit)×Unit) :=
bif (x0.1 != x1.1) then some ((false,()),()) else bif (x0.2.1 != x1.2.1) then some ((false,()),()) else bif (x0.2.2.1 != x1.2.2.1) then some ((false,()),()) else bif (x0.2.2.2.1 != x1.2.2.2.1) then some ((false,()),()) else some ((true,()),())
noncomputable def f157 (x0:Ta19) (x1:Ta19):Bool :=
bif (x0.1 != x1.1) then false else bif (x0.2.1 != x1.2.1) then false else bif (x0.2.2.1 != x1.2.2.1) then false else bif (x0.2.2.2.1 != x1.2.2.2.1) then false else true
theorem n157 (x0:Ta19) (x1:Ta19):g157 x0 x1 = some ((f157 x0 x1,()),()):=by simp only [g157,f157,pull1]
noncomputable def c157:Ctr:={ ins:=[.v Ty172,.v Ty172],out:=[.bool],F:=fun x=>some ((f157 x.1 x.2.1,()),()) }
theorem o157:Holds Tryz.prog 157 c157:=f0T t157 (fun x=>g157 x.1 x.2.1) Tryz.func157 tn (fun x=>n157 x.1 x.2.1)
noncomputable def t69:Tbl:=[(157,[],c157)]
abbrev h69_L0:Shape:={ slots:=[(0,.v Ty177),(1,.v Ty177),(5,.v (.int .i64))],boxes:=[] }
abbrev e69_L0:List (XT×Shape):=[(.ret,{ slots:=[(4,.v .bool)],boxes:=[] }),(.exit 0,{ slots:=[],boxes:=[] })]
noncomputable def q69_L0 (t0:Ta39) (t1:Ta39) (t5:Int):Option (((Ta39×(Ta39×(Int×Unit)))×Unit)⊕(((Bool×Unit)×Unit)⊕((Unit×Unit)⊕Empty))) :=
bif (decide (t5 < (t0.len:Int))) then bif (decide (0≤t5)&&decide (t5 < (t0.len:Int))) then bif (decide (0≤t5)&&decide (t5 < (t1.len:Int))) then bif (!(f157 (L.get t0 t5.toNat) (L.get t1 t5.toNat))) then some (.inr (.inl ((false,()),()))) else some (.inl ((t0,(t1,((wI (t5 + (1:Int))),()))),())) else none else none else some (.inr (.inr (.inl ((),()))))
noncomputable def s69_L0 (x:((Ta39×(Ta39×(Int×Unit)))×Unit)):=q69_L0 x.1.1 x.1.2.1 x.1.2.2.1
noncomputable def a69:Nat→Option LoopAnn:=fun c=>bif Nat.beq c 0 then some (.fix h69_L0 e69_L0 s69_L0) else none
noncomputable def g69 (x0:Ta39) (x1:Ta39):Option ((Bool×Unit)×Unit) :=
bif ((x0.len:Int) != (x1.len:Int)) then some ((false,()),()) else (fixO s69_L0 ((x0,(x1,((0:Int),()))),())).bind fun d2=>match d2 with | .inl y1=>some ((y1.1.1,()),()) | .inr (.inl y1)=>some ((true,()),()) | .inr (.inr e)=>nomatch e
noncomputable def c69:Ctr:={ ins:=[.v Ty177,.v Ty177],out:=[.bool],F:=fun x=>g69 x.1 x.2.1 }
noncomputable def l69:List (Nat×Code):=loopsIn (Tryz.f69.body.getD .skip) 0
theorem w69_L0:LW t69 a69 l69 0 0 h69_L0 e69_L0 s69_L0:=fun x=>by kernel_rfl
theorem o69:Holds Tryz.prog 69 c69:=fh t69 a69 Tryz.func69 [(0,lg l69 0)] ⟨fun x d h=>(w69_L0 x).trans h,trivial⟩ (tc o157 tn)
noncomputable def t158:Tbl:=[]
noncomputable def g158 (x0:(Int×(Int×(Int×Unit)))) (x1:(Int×(Int×(Int×Unit)))):Option ((Bool×Unit)×Unit) :=
bif (x0.1 != x1.1) then some ((false,()),()) else bif (x0.2.1 != x1.2.1) then some ((false,()),()) else bif (x0.2.2.1 != x1.2.2.1) then some ((false,()),()) else some ((true,()),())
noncomputable def f158 (x0:(Int×(Int×(Int×Unit)))) (x1:(Int×(Int×(Int×Unit)))):Bool :=
bif (x0.1 != x1.1) then false else bif (x0.2.1 != x1.2.1) then false else bif (x0.2.2.1 != x1.2.2.1) then false else true
theorem n158 (x0:(Int×(Int×(Int×Unit)))) (x1:(Int×(Int×(Int×Unit)))):g158 x0 x1 = some ((f158 x0 x1,()),()):=by simp only [g158,f158,pull1]
noncomputable def c158:Ctr:={ ins:=[.v Ty135,.v Ty135],out:=[.bool],F:=fun x=>some ((f158 x.1 x.2.1,()),()) }
theorem o158:Holds Tryz.prog 158 c158:=f0T t158 (fun x=>g158 x.1 x.2.1) Tryz.func158 tn (fun x=>n158 x.1 x.2.1)
noncomputable def t70:Tbl:=[(158,[],c158)]
abbrev h70_L0:Shape:={ slots:=[(0,.v Ty145),(1,.v Ty145),(5,.v (.int .i64))],boxes:=[] }
abbrev e70_L0:List (XT×Shape):=[(.ret,{ slots:=[(4,.v .bool)],boxes:=[] }),(.exit 0,{ slots:=[],boxes:=[] })]
noncomputable def q70_L0 (t0:Ta14) (t1:Ta14) (t5:Int):Option (Ta150⊕(((Bool×Unit)×Unit)⊕((Unit×Unit)⊕Empty))) :=
bif (decide (t5 < (t0.len:Int))) then bif (decide (0≤t5)&&decide (t5 < (t0.len:Int))) then bif (decide (0≤t5)&&decide (t5 < (t1.len:Int))) then bif (!(f158 (L.get t0 t5.toNat) (L.get t1 t5.toNat))) then some (.inr (.inl ((false,()),()))) else some (.inl ((t0,(t1,((wI (t5 + (1:Int))),()))),())) else none else none else some (.inr (.inr (.inl ((),()))))
noncomputable def s70_L0 (x:Ta150):=q70_L0 x.1.1 x.1.2.1 x.1.2.2.1
noncomputable def a70:Nat→Option LoopAnn:=fun c=>bif Nat.beq c 0 then some (.fix h70_L0 e70_L0 s70_L0) else none
noncomputable def g70 (x0:Ta14) (x1:Ta14):Option ((Bool×Unit)×Unit) :=
bif ((x0.len:Int) != (x1.len:Int)) then some ((false,()),()) else (fixO s70_L0 ((x0,(x1,((0:Int),()))),())).bind fun d2=>match d2 with | .inl y1=>some ((y1.1.1,()),()) | .inr (.inl y1)=>some ((true,()),()) | .inr (.inr e)=>nomatch e
noncomputable def c70:Ctr:={ ins:=[.v Ty145,.v Ty145],out:=[.bool],F:=fun x=>g70 x.1 x.2.1 }
noncomputable def l70:List (Nat×Code):=loopsIn (Tryz.f70.body.getD .skip) 0
theorem w70_L0:LW t70 a70 l70 0 0 h70_L0 e70_L0 s70_L0:=fun x=>by kernel_rfl
theorem o70:Holds Tryz.prog 70 c70:=fh t70 a70 Tryz.func70 [(0,lg l70 0)] ⟨fun x d h=>(w70_L0 x).trans h,trivial⟩ (tc o158 tn)
noncomputable def t16:Tbl:=[(65,[],c65),(66,[],c66),(67,[],c67),(68,[],c68),(69,[],c69),(70,[],c70)]
noncomputable def g16 (x0:Ta339) (x1:Ta339):Option ((Bool×Unit)×Unit) :=
bif (x0.1 != x1.1) then some ((false,()),()) else bif (!(f65 x0.2.1 x1.2.1)) then some ((false,()),()) else bif (x0.2.2.1 != x1.2.2.1) then some ((false,()),()) else bif (!(f66 x0.2.2.2.1 x1.2.2.2.1)) then some ((false,()),()) else bif (x0.2.2.2.2.1 != x1.2.2.2.2.1) then some ((false,()),()) else bif (x0.2.2.2.2.2.1 != x1.2.2.2.2.2.1) then some ((false,()),()) else bif (x0.2.2.2.2.2.2.1 != x1.2.2.2.2.2.2.1) then some ((false,()),()) else (g67 x0.2.2.2.2.2.2.2.1 x1.2.2.2.2.2.2.2.1).bind fun y1=>bif (!y1.1.1) then some ((false,()),()) else (g68 x0.2.2.2.2.2.2.2.2.1 x1.2.2.2.2.2.2.2.2.1).bind fun y2=>bif (!y2.1.1) then some ((false,()),()) else (g69 x0.2.2.2.2.2.2.2.2.2.1 x1.2.2.2.2.2.2.2.2.2.1).bind fun y3=>bif (!y3.1.1) then some ((false,()),()) else (g70 x0.2.2.2.2.2.2.2.2.2.2.1 x1.2.2.2.2.2.2.2.2.2.2.1).bind fun y4=>bif (!y4.1.1) then some ((false,()),()) else some ((true,()),())
noncomputable def c16:Ctr:={ ins:=[.v Ty379,.v Ty379],out:=[.bool],F:=fun x=>g16 x.1 x.2.1 }
theorem o16:Holds Tryz.prog 16 c16:=f0 t16 Tryz.func16 (tc o65 (tc o66 (tc o67 (tc o68 (tc o69 (tc o70 tn))))))
noncomputable def t159:Tbl:=[]
abbrev h159_L0:Shape:={ slots:=[(0,.v (.int .i64)),(3,.v .str)],boxes:=[] }
abbrev e159_L0:List (XT×Shape):=[(.exit 0,{ slots:=[(3,.v .str)],boxes:=[] })]
noncomputable def q159_L0 (t0:Int) (t3:ByteArray):Option (((Int×(ByteArray×Unit))×Unit)⊕(((ByteArray×Unit)×Unit)⊕Empty)) :=
bif (decide (t0 > (0:Int))) then bif (Nat.ble ((strOfL (L.of (Ty.zero (.int .u8)) [(IntKind.wrap .u8 ((wI ((48:Int) + (Int.tmod t0 (10:Int))))))])).size + t3.size) 9223372036854775807) then some (.inl (((wI (Int.tdiv t0 (10:Int))),(((strOfL (L.of (Ty.zero (.int .u8)) [(IntKind.wrap .u8 ((wI ((48:Int) + (Int.tmod t0 (10:Int))))))])) ++ t3),())),())) else none else some (.inr (.inl ((t3,()),())))
noncomputable def s159_L0 (x:((Int×(ByteArray×Unit))×Unit)):=q159_L0 x.1.1 x.1.2.1
noncomputable def a159:Nat→Option LoopAnn:=fun c=>bif Nat.beq c 0 then some (.fix h159_L0 e159_L0 s159_L0) else none
noncomputable def g159 (x0:Int):Option ((ByteArray×Unit)×Unit) :=
bif (decide (x0≤(0:Int))) then some (((⟨#[109,48]⟩:ByteArray),()),()) else (fixO s159_L0 ((x0,((⟨#[]⟩:ByteArray),())),())).bind fun d2=>match d2 with | .inl y1=>bif (Nat.ble ((⟨#[109]⟩:ByteArray).size + y1.1.1.size) 9223372036854775807) then some ((((⟨#[109]⟩:ByteArray) ++ y1.1.1),()),()) else none | .inr e=>nomatch e
noncomputable def c159:Ctr:={ ins:=[.v (.int .i64)],out:=[.str],F:=fun x=>g159 x.1 }
noncomputable def l159:List (Nat×Code):=loopsIn (Tryz.f159.body.getD .skip) 0
theorem w159_L0:LW t159 a159 l159 0 0 h159_L0 e159_L0 s159_L0:=fun x=>by kernel_rfl
theorem o159:Holds Tryz.prog 159 c159:=fh t159 a159 Tryz.func159 [(0,lg l159 0)] ⟨fun x d h=>(w159_L0 x).trans h,trivial⟩ tn
noncomputable def t160w:Tbl:=[]
abbrev h160w_L0:Shape:={ slots:=[(0,.ms 200000000),(1,.v (.int .i64)),(5,.v (.int .i64))],boxes:=[(200000000,.row Ty135)] }
abbrev e160w_L0:List (XT×Shape):=[(.exit 0,{ slots:=[(1,.v (.int .i64))],boxes:=[(200000000,.row Ty135)] })]
noncomputable def q160w_L0 (t1:Int) (t5:Int) (r200000000:Ta14):Option (Ta129⊕(Ta89⊕Empty)) :=
bif (decide (t5 < (r200000000.len:Int))) then bif (decide (0≤t5)&&decide (t5 < (r200000000.len:Int))) then bif (decide (0≤t5)&&decide (t5 < ((L.upd r200000000 t5.toNat fun e=>(t1,e.2)).len:Int))) then bif (decide (0≤t5)&&decide (t5 < ((L.upd (L.upd r200000000 t5.toNat fun e=>(t1,e.2)) t5.toNat fun e=>(e.1,((wI (t1 + (1:Int))),e.2.2))).len:Int))) then some (.inl (((),((wI ((wI ((wI (t1 + (1:Int))) + (1:Int))) + (1:Int))),((wI (t5 + (1:Int))),()))),((L.upd (L.upd (L.upd r200000000 t5.toNat fun e=>(t1,e.2)) t5.toNat fun e=>(e.1,((wI (t1 + (1:Int))),e.2.2))) t5.toNat fun e=>(e.1,(e.2.1,((wI ((wI (t1 + (1:Int))) + (1:Int))),())))),()))) else none else none else none else some (.inr (.inl ((t1,()),(r200000000,()))))
noncomputable def s160w_L0 (x:Ta129):=q160w_L0 x.1.2.1 x.1.2.2.1 x.2.1
noncomputable def a160w:Nat→Option LoopAnn:=fun c=>bif Nat.beq c 0 then some (.fix h160w_L0 e160w_L0 s160w_L0) else none
noncomputable def g160w (x0:Ta14) (x1:Int):Option Ta89 :=
(fixO s160w_L0 (((),(x1,((0:Int),()))),(x0,()))).bind fun d2=>match d2 with | .inl y1=>some ((y1.1.1,()),(y1.2.1,())) | .inr e=>nomatch e
noncomputable def c160w:Ctr:={ ins:=[.ow Ty145,.v (.int .i64)],out:=[(.int .i64)],F:=fun x=>g160w x.1 x.2.1 }
noncomputable def l160w:List (Nat×Code):=loopsIn (Tryz.f160.body.getD .skip) 0
theorem w160w_L0:LW t160w a160w l160w 0 0 h160w_L0 e160w_L0 s160w_L0:=fun x=>by kernel_rfl
theorem o160w:Holds Tryz.prog 160 c160w:=fh t160w a160w Tryz.func160 [(0,lg l160w 0)] ⟨fun x d h=>(w160w_L0 x).trans h,trivial⟩ tn
noncomputable def t72w:Tbl:=[(159,[],c159),(160,[],c160w)]
abbrev h72w_L0:Shape:={ slots:=[(0,.ms 200000000),(1,.v (.int .i64)),(5,.v (.int .i64))],boxes:=[(200000000,.row Ty268)] }
abbrev e72w_L0:List (XT×Shape):=[(.exit 0,{ slots:=[(1,.v (.int .i64))],boxes:=[(200000000,.row Ty268)] })]
noncomputable def q72w_L0 (t1:Int) (t5:Int) (r200000000:Ta149):Option (((Unit×(Int×(Int×Unit)))×Ta161)⊕(((Int×Unit)×Ta161)⊕Empty)) :=
bif (decide (t5 < (r200000000.len:Int))) then (g159 t1).bind fun y1=>bif (decide (0≤t5)&&decide (t5 < (r200000000.len:Int))) then bif (decide (0≤t5)&&decide (t5 < ((L.upd r200000000 t5.toNat fun e=>(y1.1.1,e.2)).len:Int))) then bif (decide (0≤t5)&&decide (t5 < ((L.upd (L.upd r200000000 t5.toNat fun e=>(y1.1.1,e.2)) t5.toNat fun e=>(e.1,((wI (t1 + (1:Int))),e.2.2))).len:Int))) then bif (decide (0≤t5)&&decide (t5 < ((L.upd (L.upd (L.upd r200000000 t5.toNat fun e=>(y1.1.1,e.2)) t5.toNat fun e=>(e.1,((wI (t1 + (1:Int))),e.2.2))) t5.toNat fun e=>(e.1,(e.2.1,(((wI ((wI (t1 + (1:Int))) + (1:Int))),e.2.2.1.2),e.2.2.2)))).len:Int))) then bif (decide (0≤t5)&&decide (t5 < ((L.upd (L.upd (L.upd (L.upd r200000000 t5.toNat fun e=>(y1.1.1,e.2)) t5.toNat fun e=>(e.1,((wI (t1 + (1:Int))),e.2.2))) t5.toNat fun e=>(e.1,(e.2.1,(((wI ((wI (t1 + (1:Int))) + (1:Int))),e.2.2.1.2),e.2.2.2)))) t5.toNat fun e=>(e.1,(e.2.1,((e.2.2.1.1,((wI ((wI ((wI (t1 + (1:Int))) + (1:Int))) + (1:Int))),())),e.2.2.2)))).len:Int))) then (g160w (L.get (L.upd (L.upd (L.upd (L.upd r200000000 t5.toNat fun e=>(y1.1.1,e.2)) t5.toNat fun e=>(e.1,((wI (t1 + (1:Int))),e.2.2))) t5.toNat fun e=>(e.1,(e.2.1,(((wI ((wI (t1 + (1:Int))) + (1:Int))),e.2.2.1.2),e.2.2.2)))) t5.toNat fun e=>(e.1,(e.2.1,((e.2.2.1.1,((wI ((wI ((wI (t1 + (1:Int))) + (1:Int))) + (1:Int))),())),e.2.2.2)))) t5.toNat).2.2.2.1 (wI ((wI ((wI ((wI (t1 + (1:Int))) + (1:Int))) + (1:Int))) + (1:Int)))).bind fun y2=>some (.inl (((),(y2.1.1,((wI (t5 + (1:Int))),()))),((L.upd (L.upd (L.upd (L.upd (L.upd r200000000 t5.toNat fun e=>(y1.1.1,e.2)) t5.toNat fun e=>(e.1,((wI (t1 + (1:Int))),e.2.2))) t5.toNat fun e=>(e.1,(e.2.1,(((wI ((wI (t1 + (1:Int))) + (1:Int))),e.2.2.1.2),e.2.2.2)))) t5.toNat fun e=>(e.1,(e.2.1,((e.2.2.1.1,((wI ((wI ((wI (t1 + (1:Int))) + (1:Int))) + (1:Int))),())),e.2.2.2)))) t5.toNat fun e=>(e.1,(e.2.1,(e.2.2.1,(y2.2.1,e.2.2.2.2))))),()))) else none else none else none else none else none else some (.inr (.inl ((t1,()),(r200000000,()))))
noncomputable def s72w_L0 (x:((Unit×(Int×(Int×Unit)))×Ta161)):=q72w_L0 x.1.2.1 x.1.2.2.1 x.2.1
noncomputable def a72w:Nat→Option LoopAnn:=fun c=>bif Nat.beq c 0 then some (.fix h72w_L0 e72w_L0 s72w_L0) else none
noncomputable def g72w (x0:Ta149) (x1:Int):Option ((Int×Unit)×Ta161) :=
(fixO s72w_L0 (((),(x1,((0:Int),()))),(x0,()))).bind fun d4=>match d4 with | .inl y3=>some ((y3.1.1,()),(y3.2.1,())) | .inr e=>nomatch e
noncomputable def c72w:Ctr:={ ins:=[.ow Ty276,.v (.int .i64)],out:=[(.int .i64)],F:=fun x=>g72w x.1 x.2.1 }
noncomputable def l72w:List (Nat×Code):=loopsIn (Tryz.f72.body.getD .skip) 0
theorem w72w_L0:LW t72w a72w l72w 0 0 h72w_L0 e72w_L0 s72w_L0:=fun x=>by kernel_rfl
theorem o72w:Holds Tryz.prog 72 c72w:=fh t72w a72w Tryz.func72 [(0,lg l72w 0)] ⟨fun x d h=>(w72w_L0 x).trans h,trivial⟩ (tc o159 (tc o160w tn))
noncomputable def t73w:Tbl:=[]
abbrev h73w_L0:Shape:={ slots:=[(0,.ms 200000000),(1,.v (.int .i64)),(5,.v (.int .i64))],boxes:=[(200000000,.row (.int .i64))] }
abbrev e73w_L0:List (XT×Shape):=[(.exit 0,{ slots:=[(1,.v (.int .i64))],boxes:=[(200000000,.row (.int .i64))] })]
noncomputable def q73w_L0 (t1:Int) (t5:Int) (r200000000:(L Int)):Option (Ta70⊕(Ta18⊕Empty)) :=
bif (decide (t5 < (r200000000.len:Int))) then bif (decide (0≤t5)&&decide (t5 < (r200000000.len:Int))) then some (.inl (((),((wI (t1 + (1:Int))),((wI (t5 + (1:Int))),()))),((L.set r200000000 t5.toNat t1),()))) else none else some (.inr (.inl ((t1,()),(r200000000,()))))
noncomputable def s73w_L0 (x:Ta70):=q73w_L0 x.1.2.1 x.1.2.2.1 x.2.1
noncomputable def a73w:Nat→Option LoopAnn:=fun c=>bif Nat.beq c 0 then some (.fix h73w_L0 e73w_L0 s73w_L0) else none
noncomputable def g73w (x0:(L Int)) (x1:Int):Option Ta18 :=
(fixO s73w_L0 (((),(x1,((0:Int),()))),(x0,()))).bind fun d2=>match d2 with | .inl y1=>some ((y1.1.1,()),(y1.2.1,())) | .inr e=>nomatch e
noncomputable def c73w:Ctr:={ ins:=[.ow (.sl (.int .i64)),.v (.int .i64)],out:=[(.int .i64)],F:=fun x=>g73w x.1 x.2.1 }
noncomputable def l73w:List (Nat×Code):=loopsIn (Tryz.f73.body.getD .skip) 0
theorem w73w_L0:LW t73w a73w l73w 0 0 h73w_L0 e73w_L0 s73w_L0:=fun x=>by kernel_rfl
theorem o73w:Holds Tryz.prog 73 c73w:=fh t73w a73w Tryz.func73 [(0,lg l73w 0)] ⟨fun x d h=>(w73w_L0 x).trans h,trivial⟩ tn
noncomputable def t74w:Tbl:=[]
abbrev h74w_L0:Shape:={ slots:=[(0,.ms 200000000),(1,.v (.int .i64)),(5,.v (.int .i64))],boxes:=[(200000000,.row Ty172)] }
abbrev e74w_L0:List (XT×Shape):=[(.exit 0,{ slots:=[(1,.v (.int .i64))],boxes:=[(200000000,.row Ty172)] })]
noncomputable def q74w_L0 (t1:Int) (t5:Int) (r200000000:Ta39):Option (((Unit×(Int×(Int×Unit)))×Ta63)⊕(((Int×Unit)×Ta63)⊕Empty)) :=
bif (decide (t5 < (r200000000.len:Int))) then bif (decide (0≤t5)&&decide (t5 < (r200000000.len:Int))) then bif (decide (0≤t5)&&decide (t5 < ((L.upd r200000000 t5.toNat fun e=>(t1,e.2)).len:Int))) then bif (decide (0≤t5)&&decide (t5 < ((L.upd (L.upd r200000000 t5.toNat fun e=>(t1,e.2)) t5.toNat fun e=>(e.1,((wI (t1 + (1:Int))),e.2.2))).len:Int))) then bif (decide (0≤t5)&&decide (t5 < ((L.upd (L.upd (L.upd r200000000 t5.toNat fun e=>(t1,e.2)) t5.toNat fun e=>(e.1,((wI (t1 + (1:Int))),e.2.2))) t5.toNat fun e=>(e.1,(e.2.1,((wI ((wI (t1 + (1:Int))) + (1:Int))),e.2.2.2)))).len:Int))) then some (.inl (((),((wI ((wI ((wI ((wI (t1 + (1:Int))) + (1:Int))) + (1:Int))) + (1:Int))),((wI (t5 + (1:Int))),()))),((L.upd (L.upd (L.upd (L.upd r200000000 t5.toNat fun e=>(t1,e.2)) t5.toNat fun e=>(e.1,((wI (t1 + (1:Int))),e.2.2))) t5.toNat fun e=>(e.1,(e.2.1,((wI ((wI (t1 + (1:Int))) + (1:Int))),e.2.2.2)))) t5.toNat fun e=>(e.1,(e.2.1,(e.2.2.1,((wI ((wI ((wI (t1 + (1:Int))) + (1:Int))) + (1:Int))),()))))),()))) else none else none else none else none else some (.inr (.inl ((t1,()),(r200000000,()))))
noncomputable def s74w_L0 (x:((Unit×(Int×(Int×Unit)))×Ta63)):=q74w_L0 x.1.2.1 x.1.2.2.1 x.2.1
noncomputable def a74w:Nat→Option LoopAnn:=fun c=>bif Nat.beq c 0 then some (.fix h74w_L0 e74w_L0 s74w_L0) else none
noncomputable def g74w (x0:Ta39) (x1:Int):Option ((Int×Unit)×Ta63) :=
(fixO s74w_L0 (((),(x1,((0:Int),()))),(x0,()))).bind fun d2=>match d2 with | .inl y1=>some ((y1.1.1,()),(y1.2.1,())) | .inr e=>nomatch e
noncomputable def c74w:Ctr:={ ins:=[.ow Ty177,.v (.int .i64)],out:=[(.int .i64)],F:=fun x=>g74w x.1 x.2.1 }
noncomputable def l74w:List (Nat×Code):=loopsIn (Tryz.f74.body.getD .skip) 0
theorem w74w_L0:LW t74w a74w l74w 0 0 h74w_L0 e74w_L0 s74w_L0:=fun x=>by kernel_rfl
theorem o74w:Holds Tryz.prog 74 c74w:=fh t74w a74w Tryz.func74 [(0,lg l74w 0)] ⟨fun x d h=>(w74w_L0 x).trans h,trivial⟩ tn
noncomputable def t75w:Tbl:=[]
abbrev h75w_L0:Shape:={ slots:=[(0,.ms 200000000),(1,.v (.int .i64)),(5,.v (.int .i64))],boxes:=[(200000000,.row Ty135)] }
abbrev e75w_L0:List (XT×Shape):=[(.exit 0,{ slots:=[(1,.v (.int .i64))],boxes:=[(200000000,.row Ty135)] })]
noncomputable def q75w_L0 (t1:Int) (t5:Int) (r200000000:Ta14):Option (Ta129⊕(Ta89⊕Empty)) :=
bif (decide (t5 < (r200000000.len:Int))) then bif (decide (0≤t5)&&decide (t5 < (r200000000.len:Int))) then bif (decide (0≤t5)&&decide (t5 < ((L.upd r200000000 t5.toNat fun e=>(t1,e.2)).len:Int))) then bif (decide (0≤t5)&&decide (t5 < ((L.upd (L.upd r200000000 t5.toNat fun e=>(t1,e.2)) t5.toNat fun e=>(e.1,((wI (t1 + (1:Int))),e.2.2))).len:Int))) then some (.inl (((),((wI ((wI ((wI (t1 + (1:Int))) + (1:Int))) + (1:Int))),((wI (t5 + (1:Int))),()))),((L.upd (L.upd (L.upd r200000000 t5.toNat fun e=>(t1,e.2)) t5.toNat fun e=>(e.1,((wI (t1 + (1:Int))),e.2.2))) t5.toNat fun e=>(e.1,(e.2.1,((wI ((wI (t1 + (1:Int))) + (1:Int))),())))),()))) else none else none else none else some (.inr (.inl ((t1,()),(r200000000,()))))
noncomputable def s75w_L0 (x:Ta129):=q75w_L0 x.1.2.1 x.1.2.2.1 x.2.1
noncomputable def a75w:Nat→Option LoopAnn:=fun c=>bif Nat.beq c 0 then some (.fix h75w_L0 e75w_L0 s75w_L0) else none
noncomputable def g75w (x0:Ta14) (x1:Int):Option Ta89 :=
(fixO s75w_L0 (((),(x1,((0:Int),()))),(x0,()))).bind fun d2=>match d2 with | .inl y1=>some ((y1.1.1,()),(y1.2.1,())) | .inr e=>nomatch e
noncomputable def c75w:Ctr:={ ins:=[.ow Ty145,.v (.int .i64)],out:=[(.int .i64)],F:=fun x=>g75w x.1 x.2.1 }
noncomputable def l75w:List (Nat×Code):=loopsIn (Tryz.f75.body.getD .skip) 0
theorem w75w_L0:LW t75w a75w l75w 0 0 h75w_L0 e75w_L0 s75w_L0:=fun x=>by kernel_rfl
theorem o75w:Holds Tryz.prog 75 c75w:=fh t75w a75w Tryz.func75 [(0,lg l75w 0)] ⟨fun x d h=>(w75w_L0 x).trans h,trivial⟩ tn
noncomputable def t18w:Tbl:=[(72,[],c72w),(73,[],c73w),(74,[],c74w),(75,[],c75w)]
noncomputable def g18w (x0:Ta339) (x1:Int):Option ((Int×Unit)×Ta344) :=
(g72w x0.2.2.2.2.2.2.2.1 x1).bind fun y1=>(g73w x0.2.2.2.2.2.2.2.2.1 y1.1.1).bind fun y2=>(g74w x0.2.2.2.2.2.2.2.2.2.1 y2.1.1).bind fun y3=>(g75w x0.2.2.2.2.2.2.2.2.2.2.1 y3.1.1).bind fun y4=>some ((y4.1.1,()),(((Ty.zero (.int .i64)),(((Ty.zero (.int .i64)),((Ty.zero (.int .i64)),((Ty.zero (.int .i64)),(Ty.zero .unit)))),((Ty.zero (.int .i64)),(((Ty.zero (.int .i64)),((Ty.zero (.int .i64)),((Ty.zero (.int .i64)),((Ty.zero (.int .i64)),((Ty.zero (.int .i64)),((Ty.zero (.int .i64)),((Ty.zero (.int .i64)),(Ty.zero .unit)))))))),((Ty.zero (.int .i64)),((Ty.zero (.int .i64)),((Ty.zero (.int .i64)),(y1.2.1,(y2.2.1,(y3.2.1,(y4.2.1,(Ty.zero .unit)))))))))))),()))
noncomputable def c18w:Ctr:={ ins:=[.ow Ty379,.v (.int .i64)],out:=[(.int .i64)],F:=fun x=>g18w x.1 x.2.1 }
theorem o18w:Holds Tryz.prog 18 c18w:=f0 t18w Tryz.func18 (tc o72w (tc o73w (tc o74w (tc o75w tn))))
noncomputable def t161w:Tbl:=[]
abbrev h161w_L0:Shape:={ slots:=[(0,.ms 200000000),(1,.v (.int .i64)),(5,.v (.int .i64))],boxes:=[(200000000,.row (.int .u32))] }
abbrev e161w_L0:List (XT×Shape):=[(.exit 0,{ slots:=[(1,.v (.int .i64))],boxes:=[(200000000,.row (.int .u32))] })]
noncomputable def q161w_L0 (t1:Int) (t5:Int) (r200000000:(L Int)):Option (Ta70⊕(Ta18⊕Empty)) :=
bif (decide (t5 < (r200000000.len:Int))) then bif (decide (0≤t5)&&decide (t5 < (r200000000.len:Int))) then some (.inl (((),((wI (t1 + (1:Int))),((wI (t5 + (1:Int))),()))),((L.set r200000000 t5.toNat (IntKind.wrap .u32 (t1))),()))) else none else some (.inr (.inl ((t1,()),(r200000000,()))))
noncomputable def s161w_L0 (x:Ta70):=q161w_L0 x.1.2.1 x.1.2.2.1 x.2.1
noncomputable def a161w:Nat→Option LoopAnn:=fun c=>bif Nat.beq c 0 then some (.fix h161w_L0 e161w_L0 s161w_L0) else none
noncomputable def g161w (x0:(L Int)) (x1:Int):Option Ta18 :=
(fixO s161w_L0 (((),(x1,((0:Int),()))),(x0,()))).bind fun d2=>match d2 with | .inl y1=>some ((y1.1.1,()),(y1.2.1,())) | .inr e=>nomatch e
noncomputable def c161w:Ctr:={ ins:=[.ow (.sl (.int .u32)),.v (.int .i64)],out:=[(.int .i64)],F:=fun x=>g161w x.1 x.2.1 }
noncomputable def l161w:List (Nat×Code):=loopsIn (Tryz.f161.body.getD .skip) 0
theorem w161w_L0:LW t161w a161w l161w 0 0 h161w_L0 e161w_L0 s161w_L0:=fun x=>by kernel_rfl
theorem o161w:Holds Tryz.prog 161 c161w:=fh t161w a161w Tryz.func161 [(0,lg l161w 0)] ⟨fun x d h=>(w161w_L0 x).trans h,trivial⟩ tn
noncomputable def t76w:Tbl:=[]
abbrev h76w_L0:Shape:={ slots:=[(0,.ms 200000000),(1,.v (.int .i64)),(5,.v (.int .i64))],boxes:=[(200000000,.row (.int .u8))] }
abbrev e76w_L0:List (XT×Shape):=[(.exit 0,{ slots:=[(1,.v (.int .i64))],boxes:=[(200000000,.row (.int .u8))] })]
noncomputable def q76w_L0 (t1:Int) (t5:Int) (r200000000:(L Int)):Option (Ta70⊕(Ta18⊕Empty)) :=
bif (decide (t5 < (r200000000.len:Int))) then bif (decide (0≤t5)&&decide (t5 < (r200000000.len:Int))) then some (.inl (((),((wI (t1 + (1:Int))),((wI (t5 + (1:Int))),()))),((L.set r200000000 t5.toNat (IntKind.wrap .u8 (t1))),()))) else none else some (.inr (.inl ((t1,()),(r200000000,()))))
noncomputable def s76w_L0 (x:Ta70):=q76w_L0 x.1.2.1 x.1.2.2.1 x.2.1
noncomputable def a76w:Nat→Option LoopAnn:=fun c=>bif Nat.beq c 0 then some (.fix h76w_L0 e76w_L0 s76w_L0) else none
noncomputable def g76w (x0:(L Int)) (x1:Int):Option Ta18 :=
(fixO s76w_L0 (((),(x1,((0:Int),()))),(x0,()))).bind fun d2=>match d2 with | .inl y1=>some ((y1.1.1,()),(y1.2.1,())) | .inr e=>nomatch e
noncomputable def c76w:Ctr:={ ins:=[.ow (.sl (.int .u8)),.v (.int .i64)],out:=[(.int .i64)],F:=fun x=>g76w x.1 x.2.1 }
noncomputable def l76w:List (Nat×Code):=loopsIn (Tryz.f76.body.getD .skip) 0
theorem w76w_L0:LW t76w a76w l76w 0 0 h76w_L0 e76w_L0 s76w_L0:=fun x=>by kernel_rfl
theorem o76w:Holds Tryz.prog 76 c76w:=fh t76w a76w Tryz.func76 [(0,lg l76w 0)] ⟨fun x d h=>(w76w_L0 x).trans h,trivial⟩ tn
noncomputable def t19w:Tbl:=[(76,[],c76w)]
abbrev h19w_L0:Shape:={ slots:=[(0,.ms 200000000),(1,.v (.int .i64)),(5,.v (.int .i64))],boxes:=[(200000000,.row (.sl (.int .u8)))] }
abbrev e19w_L0:List (XT×Shape):=[(.exit 0,{ slots:=[(1,.v (.int .i64))],boxes:=[(200000000,.row (.sl (.int .u8)))] })]
noncomputable def q19w_L0 (t1:Int) (t5:Int) (r200000000:(L (L Int))):Option (((Unit×(Int×(Int×Unit)))×((L (L Int))×Unit))⊕(((Int×Unit)×((L (L Int))×Unit))⊕Empty)) :=
bif (decide (t5 < (r200000000.len:Int))) then bif (decide (0≤t5)&&decide (t5 < (r200000000.len:Int))) then (g76w (L.get r200000000 t5.toNat) t1).bind fun y1=>some (.inl (((),(y1.1.1,((wI (t5 + (1:Int))),()))),((L.upd r200000000 t5.toNat fun e=>y1.2.1),()))) else none else some (.inr (.inl ((t1,()),(r200000000,()))))
noncomputable def s19w_L0 (x:((Unit×(Int×(Int×Unit)))×((L (L Int))×Unit))):=q19w_L0 x.1.2.1 x.1.2.2.1 x.2.1
noncomputable def a19w:Nat→Option LoopAnn:=fun c=>bif Nat.beq c 0 then some (.fix h19w_L0 e19w_L0 s19w_L0) else none
noncomputable def g19w (x0:(L (L Int))) (x1:Int):Option ((Int×Unit)×((L (L Int))×Unit)) :=
(fixO s19w_L0 (((),(x1,((0:Int),()))),(x0,()))).bind fun d3=>match d3 with | .inl y2=>some ((y2.1.1,()),(y2.2.1,())) | .inr e=>nomatch e
noncomputable def c19w:Ctr:={ ins:=[.ow (.sl (.sl (.int .u8))),.v (.int .i64)],out:=[(.int .i64)],F:=fun x=>g19w x.1 x.2.1 }
noncomputable def l19w:List (Nat×Code):=loopsIn (Tryz.f19.body.getD .skip) 0
theorem w19w_L0:LW t19w a19w l19w 0 0 h19w_L0 e19w_L0 s19w_L0:=fun x=>by kernel_rfl
theorem o19w:Holds Tryz.prog 19 c19w:=fh t19w a19w Tryz.func19 [(0,lg l19w 0)] ⟨fun x d h=>(w19w_L0 x).trans h,trivial⟩ (tc o76w tn)
noncomputable def t77w:Tbl:=[(161,[],c161w),(19,[],c19w)]
noncomputable def g77w (x0:Ta46) (x1:Int):Option ((Int×Unit)×Ta71) :=
(g161w x0.1 x1).bind fun y1=>(g19w x0.2.2.1 y1.1.1).bind fun y2=>some ((y2.1.1,()),((y1.2.1,((Ty.zero (.int .u32)),(y2.2.1,(Ty.zero .unit)))),()))
noncomputable def c77w:Ctr:={ ins:=[.ow Ty162,.v (.int .i64)],out:=[(.int .i64)],F:=fun x=>g77w x.1 x.2.1 }
theorem o77w:Holds Tryz.prog 77 c77w:=f0 t77w Tryz.func77 (tc o161w (tc o19w tn))
noncomputable def t245w:Tbl:=[]
abbrev h245w_L0:Shape:={ slots:=[(0,.ms 200000000),(1,.v (.int .i64)),(5,.v (.int .i64))],boxes:=[(200000000,.row Ty61)] }
abbrev e245w_L0:List (XT×Shape):=[(.exit 0,{ slots:=[(1,.v (.int .i64))],boxes:=[(200000000,.row Ty61)] })]
noncomputable def q245w_L0 (t1:Int) (t5:Int) (r200000000:(L (Int×(Bool×Unit)))):Option (((Unit×(Int×(Int×Unit)))×Ta22)⊕(((Int×Unit)×Ta22)⊕Empty)) :=
bif (decide (t5 < (r200000000.len:Int))) then bif (decide (0≤t5)&&decide (t5 < (r200000000.len:Int))) then bif (decide (0≤t5)&&decide (t5 < ((L.upd r200000000 t5.toNat fun e=>(t1,e.2)).len:Int))) then some (.inl (((),((wI ((wI (t1 + (1:Int))) + (1:Int))),((wI (t5 + (1:Int))),()))),((L.upd (L.upd r200000000 t5.toNat fun e=>(t1,e.2)) t5.toNat fun e=>(e.1,(((Int.tmod (wI (t1 + (1:Int))) (3:Int)) == (0:Int)),()))),()))) else none else none else some (.inr (.inl ((t1,()),(r200000000,()))))
noncomputable def s245w_L0 (x:((Unit×(Int×(Int×Unit)))×Ta22)):=q245w_L0 x.1.2.1 x.1.2.2.1 x.2.1
noncomputable def a245w:Nat→Option LoopAnn:=fun c=>bif Nat.beq c 0 then some (.fix h245w_L0 e245w_L0 s245w_L0) else none
noncomputable def g245w (x0:(L (Int×(Bool×Unit)))) (x1:Int):Option ((Int×Unit)×Ta22) :=
(fixO s245w_L0 (((),(x1,((0:Int),()))),(x0,()))).bind fun d2=>match d2 with | .inl y1=>some ((y1.1.1,()),(y1.2.1,())) | .inr e=>nomatch e
noncomputable def c245w:Ctr:={ ins:=[.ow Ty80,.v (.int .i64)],out:=[(.int .i64)],F:=fun x=>g245w x.1 x.2.1 }
noncomputable def l245w:List (Nat×Code):=loopsIn (Tryz.f245.body.getD .skip) 0
theorem w245w_L0:LW t245w a245w l245w 0 0 h245w_L0 e245w_L0 s245w_L0:=fun x=>by kernel_rfl
theorem o245w:Holds Tryz.prog 245 c245w:=fh t245w a245w Tryz.func245 [(0,lg l245w 0)] ⟨fun x d h=>(w245w_L0 x).trans h,trivial⟩ tn
noncomputable def t162w:Tbl:=[(245,[],c245w)]
abbrev h162w_L0:Shape:={ slots:=[(0,.ms 200000000),(1,.v (.int .i64)),(5,.v (.int .i64))],boxes:=[(200000000,.row Ty80)] }
abbrev e162w_L0:List (XT×Shape):=[(.exit 0,{ slots:=[(1,.v (.int .i64))],boxes:=[(200000000,.row Ty80)] })]
noncomputable def q162w_L0 (t1:Int) (t5:Int) (r200000000:Ta7):Option (((Unit×(Int×(Int×Unit)))×Ta40)⊕(((Int×Unit)×Ta40)⊕Empty)) :=
bif (decide (t5 < (r200000000.len:Int))) then bif (decide (0≤t5)&&decide (t5 < (r200000000.len:Int))) then (g245w (L.get r200000000 t5.toNat) t1).bind fun y1=>some (.inl (((),(y1.1.1,((wI (t5 + (1:Int))),()))),((L.upd r200000000 t5.toNat fun e=>y1.2.1),()))) else none else some (.inr (.inl ((t1,()),(r200000000,()))))
noncomputable def s162w_L0 (x:((Unit×(Int×(Int×Unit)))×Ta40)):=q162w_L0 x.1.2.1 x.1.2.2.1 x.2.1
noncomputable def a162w:Nat→Option LoopAnn:=fun c=>bif Nat.beq c 0 then some (.fix h162w_L0 e162w_L0 s162w_L0) else none
noncomputable def g162w (x0:Ta7) (x1:Int):Option ((Int×Unit)×Ta40) :=
(fixO s162w_L0 (((),(x1,((0:Int),()))),(x0,()))).bind fun d3=>match d3 with | .inl y2=>some ((y2.1.1,()),(y2.2.1,())) | .inr e=>nomatch e
noncomputable def c162w:Ctr:={ ins:=[.ow Ty101,.v (.int .i64)],out:=[(.int .i64)],F:=fun x=>g162w x.1 x.2.1 }
noncomputable def l162w:List (Nat×Code):=loopsIn (Tryz.f162.body.getD .skip) 0
theorem w162w_L0:LW t162w a162w l162w 0 0 h162w_L0 e162w_L0 s162w_L0:=fun x=>by kernel_rfl
theorem o162w:Holds Tryz.prog 162 c162w:=fh t162w a162w Tryz.func162 [(0,lg l162w 0)] ⟨fun x d h=>(w162w_L0 x).trans h,trivial⟩ (tc o245w tn)
noncomputable def t78w:Tbl:=[(162,[],c162w)]
noncomputable def g78w (x0:Ta122) (x1:Int):Option ((Int×Unit)×Ta134) :=
(g162w x0.2.1 x1).bind fun y1=>some ((y1.1.1,()),((((Ty.zero (.int .i64)),((Ty.zero (.int .i64)),((Ty.zero (.int .i64)),(Ty.zero .unit)))),(y1.2.1,(Ty.zero .unit))),()))
noncomputable def c78w:Ctr:={ ins:=[.ow Ty234,.v (.int .i64)],out:=[(.int .i64)],F:=fun x=>g78w x.1 x.2.1 }
theorem o78w:Holds Tryz.prog 78 c78w:=f0 t78w Tryz.func78 (tc o162w tn)
noncomputable def t79w:Tbl:=[(73,[],c73w)]
noncomputable def g79w (x0:(Int×((L Int)×Unit))) (x1:Int):Option ((Int×Unit)×Ta17) :=
(g73w x0.2.1 x1).bind fun y1=>some ((y1.1.1,()),(((Ty.zero (.int .i64)),(y1.2.1,(Ty.zero .unit))),()))
noncomputable def c79w:Ctr:={ ins:=[.ow Ty103,.v (.int .i64)],out:=[(.int .i64)],F:=fun x=>g79w x.1 x.2.1 }
theorem o79w:Holds Tryz.prog 79 c79w:=f0 t79w Tryz.func79 (tc o73w tn)
noncomputable def t80w:Tbl:=[(161,[],c161w)]
abbrev h80w_L0:Shape:={ slots:=[(0,.ms 200000000),(1,.v (.int .i64)),(5,.v (.int .i64))],boxes:=[(200000000,.row Ty100)] }
abbrev e80w_L0:List (XT×Shape):=[(.exit 0,{ slots:=[(1,.v (.int .i64))],boxes:=[(200000000,.row Ty100)] })]
noncomputable def q80w_L0 (t1:Int) (t5:Int) (r200000000:Ta1):Option (((Unit×(Int×(Int×Unit)))×Ta36)⊕(((Int×Unit)×Ta36)⊕Empty)) :=
bif (decide (t5 < (r200000000.len:Int))) then bif (decide (0≤t5)&&decide (t5 < (r200000000.len:Int))) then bif (decide (0≤t5)&&decide (t5 < ((L.upd r200000000 t5.toNat fun e=>(t1,e.2)).len:Int))) then (g161w (L.get (L.upd r200000000 t5.toNat fun e=>(t1,e.2)) t5.toNat).2.1 (wI (t1 + (1:Int)))).bind fun y1=>some (.inl (((),(y1.1.1,((wI (t5 + (1:Int))),()))),((L.upd (L.upd r200000000 t5.toNat fun e=>(t1,e.2)) t5.toNat fun e=>(e.1,(y1.2.1,e.2.2))),()))) else none else none else some (.inr (.inl ((t1,()),(r200000000,()))))
noncomputable def s80w_L0 (x:((Unit×(Int×(Int×Unit)))×Ta36)):=q80w_L0 x.1.2.1 x.1.2.2.1 x.2.1
noncomputable def a80w:Nat→Option LoopAnn:=fun c=>bif Nat.beq c 0 then some (.fix h80w_L0 e80w_L0 s80w_L0) else none
noncomputable def g80w (x0:Ta1) (x1:Int):Option ((Int×Unit)×Ta36) :=
(fixO s80w_L0 (((),(x1,((0:Int),()))),(x0,()))).bind fun d3=>match d3 with | .inl y2=>some ((y2.1.1,()),(y2.2.1,())) | .inr e=>nomatch e
noncomputable def c80w:Ctr:={ ins:=[.ow Ty123,.v (.int .i64)],out:=[(.int .i64)],F:=fun x=>g80w x.1 x.2.1 }
noncomputable def l80w:List (Nat×Code):=loopsIn (Tryz.f80.body.getD .skip) 0
theorem w80w_L0:LW t80w a80w l80w 0 0 h80w_L0 e80w_L0 s80w_L0:=fun x=>by kernel_rfl
theorem o80w:Holds Tryz.prog 80 c80w:=fh t80w a80w Tryz.func80 [(0,lg l80w 0)] ⟨fun x d h=>(w80w_L0 x).trans h,trivial⟩ (tc o161w tn)
noncomputable def t81w:Tbl:=[(161,[],c161w)]
abbrev h81w_L0:Shape:={ slots:=[(0,.ms 200000000),(1,.v (.int .i64)),(5,.v (.int .i64))],boxes:=[(200000000,.row Ty33)] }
abbrev e81w_L0:List (XT×Shape):=[(.exit 0,{ slots:=[(1,.v (.int .i64))],boxes:=[(200000000,.row Ty33)] })]
noncomputable def q81w_L0 (t1:Int) (t5:Int) (r200000000:(L ((L Int)×Unit))):Option (((Unit×(Int×(Int×Unit)))×Ta10)⊕(((Int×Unit)×Ta10)⊕Empty)) :=
bif (decide (t5 < (r200000000.len:Int))) then bif (decide (0≤t5)&&decide (t5 < (r200000000.len:Int))) then (g161w (L.get r200000000 t5.toNat).1 t1).bind fun y1=>some (.inl (((),(y1.1.1,((wI (t5 + (1:Int))),()))),((L.upd r200000000 t5.toNat fun e=>(y1.2.1,e.2)),()))) else none else some (.inr (.inl ((t1,()),(r200000000,()))))
noncomputable def s81w_L0 (x:((Unit×(Int×(Int×Unit)))×Ta10)):=q81w_L0 x.1.2.1 x.1.2.2.1 x.2.1
noncomputable def a81w:Nat→Option LoopAnn:=fun c=>bif Nat.beq c 0 then some (.fix h81w_L0 e81w_L0 s81w_L0) else none
noncomputable def g81w (x0:(L ((L Int)×Unit))) (x1:Int):Option ((Int×Unit)×Ta10) :=
(fixO s81w_L0 (((),(x1,((0:Int),()))),(x0,()))).bind fun d3=>match d3 with | .inl y2=>some ((y2.1.1,()),(y2.2.1,())) | .inr e=>nomatch e
noncomputable def c81w:Ctr:={ ins:=[.ow Ty54,.v (.int .i64)],out:=[(.int .i64)],F:=fun x=>g81w x.1 x.2.1 }
noncomputable def l81w:List (Nat×Code):=loopsIn (Tryz.f81.body.getD .skip) 0
theorem w81w_L0:LW t81w a81w l81w 0 0 h81w_L0 e81w_L0 s81w_L0:=fun x=>by kernel_rfl
theorem o81w:Holds Tryz.prog 81 c81w:=fh t81w a81w Tryz.func81 [(0,lg l81w 0)] ⟨fun x d h=>(w81w_L0 x).trans h,trivial⟩ (tc o161w tn)
noncomputable def t82w:Tbl:=[(161,[],c161w)]
abbrev h82w_L0:Shape:={ slots:=[(0,.ms 200000000),(1,.v (.int .i64)),(5,.v (.int .i64))],boxes:=[(200000000,.row Ty121)] }
abbrev e82w_L0:List (XT×Shape):=[(.exit 0,{ slots:=[(1,.v (.int .i64))],boxes:=[(200000000,.row Ty121)] })]
noncomputable def q82w_L0 (t1:Int) (t5:Int) (r200000000:Ta20):Option (((Unit×(Int×(Int×Unit)))×Ta49)⊕(((Int×Unit)×Ta49)⊕Empty)) :=
bif (decide (t5 < (r200000000.len:Int))) then bif (decide (0≤t5)&&decide (t5 < (r200000000.len:Int))) then (g161w (L.get r200000000 t5.toNat).1 t1).bind fun y1=>bif (decide (0≤t5)&&decide (t5 < ((L.upd r200000000 t5.toNat fun e=>(y1.2.1,e.2)).len:Int))) then (g161w (L.get (L.upd r200000000 t5.toNat fun e=>(y1.2.1,e.2)) t5.toNat).2.1 y1.1.1).bind fun y2=>some (.inl (((),(y2.1.1,((wI (t5 + (1:Int))),()))),((L.upd (L.upd r200000000 t5.toNat fun e=>(y1.2.1,e.2)) t5.toNat fun e=>(e.1,(y2.2.1,e.2.2))),()))) else none else none else some (.inr (.inl ((t1,()),(r200000000,()))))
noncomputable def s82w_L0 (x:((Unit×(Int×(Int×Unit)))×Ta49)):=q82w_L0 x.1.2.1 x.1.2.2.1 x.2.1
noncomputable def a82w:Nat→Option LoopAnn:=fun c=>bif Nat.beq c 0 then some (.fix h82w_L0 e82w_L0 s82w_L0) else none
noncomputable def g82w (x0:Ta20) (x1:Int):Option ((Int×Unit)×Ta49) :=
(fixO s82w_L0 (((),(x1,((0:Int),()))),(x0,()))).bind fun d4=>match d4 with | .inl y3=>some ((y3.1.1,()),(y3.2.1,())) | .inr e=>nomatch e
noncomputable def c82w:Ctr:={ ins:=[.ow Ty131,.v (.int .i64)],out:=[(.int .i64)],F:=fun x=>g82w x.1 x.2.1 }
noncomputable def l82w:List (Nat×Code):=loopsIn (Tryz.f82.body.getD .skip) 0
theorem w82w_L0:LW t82w a82w l82w 0 0 h82w_L0 e82w_L0 s82w_L0:=fun x=>by kernel_rfl
theorem o82w:Holds Tryz.prog 82 c82w:=fh t82w a82w Tryz.func82 [(0,lg l82w 0)] ⟨fun x d h=>(w82w_L0 x).trans h,trivial⟩ (tc o161w tn)
noncomputable def t20w:Tbl:=[(77,[],c77w),(78,[],c78w),(79,[],c79w),(19,[],c19w),(80,[],c80w),(81,[],c81w),(82,[],c82w)]
noncomputable def g20w (x0:Ta357) (x1:Int):Option ((Int×Unit)×Ta358) :=
(g77w (x0.1.1,(x0.1.2.1,x0.1.2.2)) x1).bind fun y1=>(g78w (x0.2.2.2.1.1,x0.2.2.2.1.2) y1.1.1).bind fun y2=>(g79w (x0.2.2.2.2.1.1,x0.2.2.2.2.1.2) y2.1.1).bind fun y3=>(g19w x0.2.2.2.2.2.2.2.1 y3.1.1).bind fun y4=>(g80w x0.2.2.2.2.2.2.2.2.1 y4.1.1).bind fun y5=>(g81w x0.2.2.2.2.2.2.2.2.2.1 y5.1.1).bind fun y6=>(g82w x0.2.2.2.2.2.2.2.2.2.2.1 y6.1.1).bind fun y7=>some ((y7.1.1,()),(((y1.2.1.1,((Ty.zero (.int .u32)),(y1.2.1.2.2.1,(Ty.zero .unit)))),(((Ty.zero .bool),((Ty.zero (.int .u32)),((Ty.zero (.int .u32)),((Ty.zero (.int .u32)),((Ty.zero (.int .u32)),((Ty.zero .bool),((Ty.zero .bool),((Ty.zero (.int .u32)),(Ty.zero .unit))))))))),(((Ty.zero (.int .i64)),((Ty.zero (.int .i64)),((Ty.zero (.int .i64)),((Ty.zero .bool),(Ty.zero .unit))))),((((Ty.zero (.int .i64)),((Ty.zero (.int .i64)),((Ty.zero (.int .i64)),(Ty.zero .unit)))),(y2.2.1.2.1,(Ty.zero .unit))),(((Ty.zero (.int .i64)),(y3.2.1.2.1,(Ty.zero .unit))),((Ty.zero (.int .i64)),((Ty.zero .bool),(y4.2.1,(y5.2.1,(y6.2.1,(y7.2.1,(Ty.zero .unit)))))))))))),()))
noncomputable def c20w:Ctr:={ ins:=[.ow Ty380,.v (.int .i64)],out:=[(.int .i64)],F:=fun x=>g20w x.1 x.2.1 }
theorem o20w:Holds Tryz.prog 20 c20w:=f0 t20w Tryz.func20 (tc o77w (tc o78w (tc o79w (tc o19w (tc o80w (tc o81w (tc o82w tn)))))))
noncomputable def t163:Tbl:=[]
abbrev h163_L0:Shape:={ slots:=[(0,.v (.sl (.int .u32))),(1,.v (.int .i64)),(5,.v (.int .i64))],boxes:=[] }
abbrev e163_L0:List (XT×Shape):=[(.ret,{ slots:=[(4,.v (.int .i64))],boxes:=[] }),(.exit 0,{ slots:=[(1,.v (.int .i64))],boxes:=[] })]
noncomputable def q163_L0 (t0:(L Int)) (t1:Int) (t5:Int):Option (Ta44⊕(((Int×Unit)×Unit)⊕(((Int×Unit)×Unit)⊕Empty))) :=
bif (decide (t5 < (t0.len:Int))) then bif (decide (0≤t5)&&decide (t5 < (t0.len:Int))) then bif ((L.get t0 t5.toNat) != (IntKind.wrap .u32 (t1))) then some (.inr (.inl (((-1:Int),()),()))) else some (.inl ((t0,((wI (t1 + (1:Int))),((wI (t5 + (1:Int))),()))),())) else none else some (.inr (.inr (.inl ((t1,()),()))))
noncomputable def s163_L0 (x:Ta44):=q163_L0 x.1.1 x.1.2.1 x.1.2.2.1
noncomputable def a163:Nat→Option LoopAnn:=fun c=>bif Nat.beq c 0 then some (.fix h163_L0 e163_L0 s163_L0) else none
noncomputable def g163 (x0:(L Int)) (x1:Int):Option ((Int×Unit)×Unit) :=
(fixO s163_L0 ((x0,(x1,((0:Int),()))),())).bind fun d2=>match d2 with | .inl y1=>some ((y1.1.1,()),()) | .inr (.inl y1)=>some ((y1.1.1,()),()) | .inr (.inr e)=>nomatch e
noncomputable def c163:Ctr:={ ins:=[.v (.sl (.int .u32)),.v (.int .i64)],out:=[(.int .i64)],F:=fun x=>g163 x.1 x.2.1 }
noncomputable def l163:List (Nat×Code):=loopsIn (Tryz.f163.body.getD .skip) 0
theorem w163_L0:LW t163 a163 l163 0 0 h163_L0 e163_L0 s163_L0:=fun x=>by kernel_rfl
theorem o163:Holds Tryz.prog 163 c163:=fh t163 a163 Tryz.func163 [(0,lg l163 0)] ⟨fun x d h=>(w163_L0 x).trans h,trivial⟩ tn
noncomputable def t166:Tbl:=[]
abbrev h166_L0:Shape:={ slots:=[(0,.v (.sl (.int .u8))),(1,.v (.int .i64)),(5,.v (.int .i64))],boxes:=[] }
abbrev e166_L0:List (XT×Shape):=[(.ret,{ slots:=[(4,.v (.int .i64))],boxes:=[] }),(.exit 0,{ slots:=[(1,.v (.int .i64))],boxes:=[] })]
noncomputable def q166_L0 (t0:(L Int)) (t1:Int) (t5:Int):Option (Ta44⊕(((Int×Unit)×Unit)⊕(((Int×Unit)×Unit)⊕Empty))) :=
bif (decide (t5 < (t0.len:Int))) then bif (decide (0≤t5)&&decide (t5 < (t0.len:Int))) then bif ((L.get t0 t5.toNat) != (IntKind.wrap .u8 (t1))) then some (.inr (.inl (((-1:Int),()),()))) else some (.inl ((t0,((wI (t1 + (1:Int))),((wI (t5 + (1:Int))),()))),())) else none else some (.inr (.inr (.inl ((t1,()),()))))
noncomputable def s166_L0 (x:Ta44):=q166_L0 x.1.1 x.1.2.1 x.1.2.2.1
noncomputable def a166:Nat→Option LoopAnn:=fun c=>bif Nat.beq c 0 then some (.fix h166_L0 e166_L0 s166_L0) else none
noncomputable def g166 (x0:(L Int)) (x1:Int):Option ((Int×Unit)×Unit) :=
(fixO s166_L0 ((x0,(x1,((0:Int),()))),())).bind fun d2=>match d2 with | .inl y1=>some ((y1.1.1,()),()) | .inr (.inl y1)=>some ((y1.1.1,()),()) | .inr (.inr e)=>nomatch e
noncomputable def c166:Ctr:={ ins:=[.v (.sl (.int .u8)),.v (.int .i64)],out:=[(.int .i64)],F:=fun x=>g166 x.1 x.2.1 }
noncomputable def l166:List (Nat×Code):=loopsIn (Tryz.f166.body.getD .skip) 0
theorem w166_L0:LW t166 a166 l166 0 0 h166_L0 e166_L0 s166_L0:=fun x=>by kernel_rfl
theorem o166:Holds Tryz.prog 166 c166:=fh t166 a166 Tryz.func166 [(0,lg l166 0)] ⟨fun x d h=>(w166_L0 x).trans h,trivial⟩ tn
noncomputable def t86:Tbl:=[(166,[],c166)]
abbrev h86_L0:Shape:={ slots:=[(0,.v (.sl (.sl (.int .u8)))),(1,.v (.int .i64)),(5,.v (.int .i64))],boxes:=[] }
abbrev e86_L0:List (XT×Shape):=[(.ret,{ slots:=[(4,.v (.int .i64))],boxes:=[] }),(.exit 0,{ slots:=[(1,.v (.int .i64))],boxes:=[] })]
noncomputable def q86_L0 (t0:(L (L Int))) (t1:Int) (t5:Int):Option (Ta53⊕(((Int×Unit)×Unit)⊕(((Int×Unit)×Unit)⊕Empty))) :=
bif (decide (t5 < (t0.len:Int))) then bif (decide (0≤t5)&&decide (t5 < (t0.len:Int))) then (g166 (L.get t0 t5.toNat) t1).bind fun y1=>bif (decide (y1.1.1 < (0:Int))) then some (.inr (.inl (((-1:Int),()),()))) else some (.inl ((t0,(y1.1.1,((wI (t5 + (1:Int))),()))),())) else none else some (.inr (.inr (.inl ((t1,()),()))))
noncomputable def s86_L0 (x:Ta53):=q86_L0 x.1.1 x.1.2.1 x.1.2.2.1
noncomputable def a86:Nat→Option LoopAnn:=fun c=>bif Nat.beq c 0 then some (.fix h86_L0 e86_L0 s86_L0) else none
noncomputable def g86 (x0:(L (L Int))) (x1:Int):Option ((Int×Unit)×Unit) :=
(fixO s86_L0 ((x0,(x1,((0:Int),()))),())).bind fun d3=>match d3 with | .inl y2=>some ((y2.1.1,()),()) | .inr (.inl y2)=>some ((y2.1.1,()),()) | .inr (.inr e)=>nomatch e
noncomputable def c86:Ctr:={ ins:=[.v (.sl (.sl (.int .u8))),.v (.int .i64)],out:=[(.int .i64)],F:=fun x=>g86 x.1 x.2.1 }
noncomputable def l86:List (Nat×Code):=loopsIn (Tryz.f86.body.getD .skip) 0
theorem w86_L0:LW t86 a86 l86 0 0 h86_L0 e86_L0 s86_L0:=fun x=>by kernel_rfl
theorem o86:Holds Tryz.prog 86 c86:=fh t86 a86 Tryz.func86 [(0,lg l86 0)] ⟨fun x d h=>(w86_L0 x).trans h,trivial⟩ (tc o166 tn)
noncomputable def t83:Tbl:=[(163,[],c163),(86,[],c86)]
noncomputable def g83 (x0:Ta46) (x1:Int):Option ((Int×Unit)×Unit) :=
(g163 x0.1 x1).bind fun y1=>bif (decide (y1.1.1 < (0:Int))) then some (((-1:Int),()),()) else (g86 x0.2.2.1 y1.1.1).bind fun y2=>bif (decide (y2.1.1 < (0:Int))) then some (((-1:Int),()),()) else some ((y2.1.1,()),())
noncomputable def c83:Ctr:={ ins:=[.v Ty162,.v (.int .i64)],out:=[(.int .i64)],F:=fun x=>g83 x.1 x.2.1 }
theorem o83:Holds Tryz.prog 83 c83:=f0 t83 Tryz.func83 (tc o163 (tc o86 tn))
noncomputable def t246:Tbl:=[]
abbrev h246_L0:Shape:={ slots:=[(0,.v Ty80),(1,.v (.int .i64)),(5,.v (.int .i64))],boxes:=[] }
abbrev e246_L0:List (XT×Shape):=[(.ret,{ slots:=[(4,.v (.int .i64))],boxes:=[] }),(.exit 0,{ slots:=[(1,.v (.int .i64))],boxes:=[] })]
noncomputable def q246_L0 (t0:(L (Int×(Bool×Unit)))) (t1:Int) (t5:Int):Option ((Ta68×Unit)⊕(((Int×Unit)×Unit)⊕(((Int×Unit)×Unit)⊕Empty))) :=
bif (decide (t5 < (t0.len:Int))) then bif (decide (0≤t5)&&decide (t5 < (t0.len:Int))) then bif ((L.get t0 t5.toNat).1 != t1) then some (.inr (.inl (((-1:Int),()),()))) else bif (decide (0≤t5)&&decide (t5 < (t0.len:Int))) then bif (!((L.get t0 t5.toNat).2.1 == ((Int.tmod (wI (t1 + (1:Int))) (3:Int)) == (0:Int)))) then some (.inr (.inl (((-1:Int),()),()))) else some (.inl ((t0,((wI ((wI (t1 + (1:Int))) + (1:Int))),((wI (t5 + (1:Int))),()))),())) else none else none else some (.inr (.inr (.inl ((t1,()),()))))
noncomputable def s246_L0 (x:(Ta68×Unit)):=q246_L0 x.1.1 x.1.2.1 x.1.2.2.1
noncomputable def a246:Nat→Option LoopAnn:=fun c=>bif Nat.beq c 0 then some (.fix h246_L0 e246_L0 s246_L0) else none
noncomputable def g246 (x0:(L (Int×(Bool×Unit)))) (x1:Int):Option ((Int×Unit)×Unit) :=
(fixO s246_L0 ((x0,(x1,((0:Int),()))),())).bind fun d2=>match d2 with | .inl y1=>some ((y1.1.1,()),()) | .inr (.inl y1)=>some ((y1.1.1,()),()) | .inr (.inr e)=>nomatch e
noncomputable def c246:Ctr:={ ins:=[.v Ty80,.v (.int .i64)],out:=[(.int .i64)],F:=fun x=>g246 x.1 x.2.1 }
noncomputable def l246:List (Nat×Code):=loopsIn (Tryz.f246.body.getD .skip) 0
theorem w246_L0:LW t246 a246 l246 0 0 h246_L0 e246_L0 s246_L0:=fun x=>by kernel_rfl
theorem o246:Holds Tryz.prog 246 c246:=fh t246 a246 Tryz.func246 [(0,lg l246 0)] ⟨fun x d h=>(w246_L0 x).trans h,trivial⟩ tn
noncomputable def t164:Tbl:=[(246,[],c246)]
abbrev h164_L0:Shape:={ slots:=[(0,.v Ty101),(1,.v (.int .i64)),(5,.v (.int .i64))],boxes:=[] }
abbrev e164_L0:List (XT×Shape):=[(.ret,{ slots:=[(4,.v (.int .i64))],boxes:=[] }),(.exit 0,{ slots:=[(1,.v (.int .i64))],boxes:=[] })]
noncomputable def q164_L0 (t0:Ta7) (t1:Int) (t5:Int):Option (Ta102⊕(((Int×Unit)×Unit)⊕(((Int×Unit)×Unit)⊕Empty))) :=
bif (decide (t5 < (t0.len:Int))) then bif (decide (0≤t5)&&decide (t5 < (t0.len:Int))) then (g246 (L.get t0 t5.toNat) t1).bind fun y1=>bif (decide (y1.1.1 < (0:Int))) then some (.inr (.inl (((-1:Int),()),()))) else some (.inl ((t0,(y1.1.1,((wI (t5 + (1:Int))),()))),())) else none else some (.inr (.inr (.inl ((t1,()),()))))
noncomputable def s164_L0 (x:Ta102):=q164_L0 x.1.1 x.1.2.1 x.1.2.2.1
noncomputable def a164:Nat→Option LoopAnn:=fun c=>bif Nat.beq c 0 then some (.fix h164_L0 e164_L0 s164_L0) else none
noncomputable def g164 (x0:Ta7) (x1:Int):Option ((Int×Unit)×Unit) :=
(fixO s164_L0 ((x0,(x1,((0:Int),()))),())).bind fun d3=>match d3 with | .inl y2=>some ((y2.1.1,()),()) | .inr (.inl y2)=>some ((y2.1.1,()),()) | .inr (.inr e)=>nomatch e
noncomputable def c164:Ctr:={ ins:=[.v Ty101,.v (.int .i64)],out:=[(.int .i64)],F:=fun x=>g164 x.1 x.2.1 }
noncomputable def l164:List (Nat×Code):=loopsIn (Tryz.f164.body.getD .skip) 0
theorem w164_L0:LW t164 a164 l164 0 0 h164_L0 e164_L0 s164_L0:=fun x=>by kernel_rfl
theorem o164:Holds Tryz.prog 164 c164:=fh t164 a164 Tryz.func164 [(0,lg l164 0)] ⟨fun x d h=>(w164_L0 x).trans h,trivial⟩ (tc o246 tn)
noncomputable def t84:Tbl:=[(164,[],c164)]
noncomputable def g84 (x0:Ta122) (x1:Int):Option ((Int×Unit)×Unit) :=
(g164 x0.2.1 x1).bind fun y1=>bif (decide (y1.1.1 < (0:Int))) then some (((-1:Int),()),()) else some ((y1.1.1,()),())
noncomputable def c84:Ctr:={ ins:=[.v Ty234,.v (.int .i64)],out:=[(.int .i64)],F:=fun x=>g84 x.1 x.2.1 }
theorem o84:Holds Tryz.prog 84 c84:=f0 t84 Tryz.func84 (tc o164 tn)
noncomputable def t165:Tbl:=[]
abbrev h165_L0:Shape:={ slots:=[(0,.v (.sl (.int .i64))),(1,.v (.int .i64)),(5,.v (.int .i64))],boxes:=[] }
abbrev e165_L0:List (XT×Shape):=[(.ret,{ slots:=[(4,.v (.int .i64))],boxes:=[] }),(.exit 0,{ slots:=[(1,.v (.int .i64))],boxes:=[] })]
noncomputable def q165_L0 (t0:(L Int)) (t1:Int) (t5:Int):Option (Ta44⊕(((Int×Unit)×Unit)⊕(((Int×Unit)×Unit)⊕Empty))) :=
bif (decide (t5 < (t0.len:Int))) then bif (decide (0≤t5)&&decide (t5 < (t0.len:Int))) then bif ((L.get t0 t5.toNat) != t1) then some (.inr (.inl (((-1:Int),()),()))) else some (.inl ((t0,((wI (t1 + (1:Int))),((wI (t5 + (1:Int))),()))),())) else none else some (.inr (.inr (.inl ((t1,()),()))))
noncomputable def s165_L0 (x:Ta44):=q165_L0 x.1.1 x.1.2.1 x.1.2.2.1
noncomputable def a165:Nat→Option LoopAnn:=fun c=>bif Nat.beq c 0 then some (.fix h165_L0 e165_L0 s165_L0) else none
noncomputable def g165 (x0:(L Int)) (x1:Int):Option ((Int×Unit)×Unit) :=
(fixO s165_L0 ((x0,(x1,((0:Int),()))),())).bind fun d2=>match d2 with | .inl y1=>some ((y1.1.1,()),()) | .inr (.inl y1)=>some ((y1.1.1,()),()) | .inr (.inr e)=>nomatch e
noncomputable def c165:Ctr:={ ins:=[.v (.sl (.int .i64)),.v (.int .i64)],out:=[(.int .i64)],F:=fun x=>g165 x.1 x.2.1 }
noncomputable def l165:List (Nat×Code):=loopsIn (Tryz.f165.body.getD .skip) 0
theorem w165_L0:LW t165 a165 l165 0 0 h165_L0 e165_L0 s165_L0:=fun x=>by kernel_rfl
theorem o165:Holds Tryz.prog 165 c165:=fh t165 a165 Tryz.func165 [(0,lg l165 0)] ⟨fun x d h=>(w165_L0 x).trans h,trivial⟩ tn
noncomputable def t85:Tbl:=[(165,[],c165)]
noncomputable def g85 (x0:(Int×((L Int)×Unit))) (x1:Int):Option ((Int×Unit)×Unit) :=
(g165 x0.2.1 x1).bind fun y1=>bif (decide (y1.1.1 < (0:Int))) then some (((-1:Int),()),()) else some ((y1.1.1,()),())
noncomputable def c85:Ctr:={ ins:=[.v Ty103,.v (.int .i64)],out:=[(.int .i64)],F:=fun x=>g85 x.1 x.2.1 }
theorem o85:Holds Tryz.prog 85 c85:=f0 t85 Tryz.func85 (tc o165 tn)
noncomputable def t87:Tbl:=[(163,[],c163)]
abbrev h87_L0:Shape:={ slots:=[(0,.v Ty123),(1,.v (.int .i64)),(5,.v (.int .i64))],boxes:=[] }
abbrev e87_L0:List (XT×Shape):=[(.ret,{ slots:=[(4,.v (.int .i64))],boxes:=[] }),(.exit 0,{ slots:=[(1,.v (.int .i64))],boxes:=[] })]
noncomputable def q87_L0 (t0:Ta1) (t1:Int) (t5:Int):Option (Ta98⊕(((Int×Unit)×Unit)⊕(((Int×Unit)×Unit)⊕Empty))) :=
bif (decide (t5 < (t0.len:Int))) then bif (decide (0≤t5)&&decide (t5 < (t0.len:Int))) then bif ((L.get t0 t5.toNat).1 != t1) then some (.inr (.inl (((-1:Int),()),()))) else bif (decide (0≤t5)&&decide (t5 < (t0.len:Int))) then (g163 (L.get t0 t5.toNat).2.1 (wI (t1 + (1:Int)))).bind fun y1=>bif (decide (y1.1.1 < (0:Int))) then some (.inr (.inl (((-1:Int),()),()))) else some (.inl ((t0,(y1.1.1,((wI (t5 + (1:Int))),()))),())) else none else none else some (.inr (.inr (.inl ((t1,()),()))))
noncomputable def s87_L0 (x:Ta98):=q87_L0 x.1.1 x.1.2.1 x.1.2.2.1
noncomputable def a87:Nat→Option LoopAnn:=fun c=>bif Nat.beq c 0 then some (.fix h87_L0 e87_L0 s87_L0) else none
noncomputable def g87 (x0:Ta1) (x1:Int):Option ((Int×Unit)×Unit) :=
(fixO s87_L0 ((x0,(x1,((0:Int),()))),())).bind fun d3=>match d3 with | .inl y2=>some ((y2.1.1,()),()) | .inr (.inl y2)=>some ((y2.1.1,()),()) | .inr (.inr e)=>nomatch e
noncomputable def c87:Ctr:={ ins:=[.v Ty123,.v (.int .i64)],out:=[(.int .i64)],F:=fun x=>g87 x.1 x.2.1 }
noncomputable def l87:List (Nat×Code):=loopsIn (Tryz.f87.body.getD .skip) 0
theorem w87_L0:LW t87 a87 l87 0 0 h87_L0 e87_L0 s87_L0:=fun x=>by kernel_rfl
theorem o87:Holds Tryz.prog 87 c87:=fh t87 a87 Tryz.func87 [(0,lg l87 0)] ⟨fun x d h=>(w87_L0 x).trans h,trivial⟩ (tc o163 tn)
noncomputable def t88:Tbl:=[(163,[],c163)]
abbrev h88_L0:Shape:={ slots:=[(0,.v Ty54),(1,.v (.int .i64)),(5,.v (.int .i64))],boxes:=[] }
abbrev e88_L0:List (XT×Shape):=[(.ret,{ slots:=[(4,.v (.int .i64))],boxes:=[] }),(.exit 0,{ slots:=[(1,.v (.int .i64))],boxes:=[] })]
noncomputable def q88_L0 (t0:(L ((L Int)×Unit))) (t1:Int) (t5:Int):Option (Ta76⊕(((Int×Unit)×Unit)⊕(((Int×Unit)×Unit)⊕Empty))) :=
bif (decide (t5 < (t0.len:Int))) then bif (decide (0≤t5)&&decide (t5 < (t0.len:Int))) then (g163 (L.get t0 t5.toNat).1 t1).bind fun y1=>bif (decide (y1.1.1 < (0:Int))) then some (.inr (.inl (((-1:Int),()),()))) else some (.inl ((t0,(y1.1.1,((wI (t5 + (1:Int))),()))),())) else none else some (.inr (.inr (.inl ((t1,()),()))))
noncomputable def s88_L0 (x:Ta76):=q88_L0 x.1.1 x.1.2.1 x.1.2.2.1
noncomputable def a88:Nat→Option LoopAnn:=fun c=>bif Nat.beq c 0 then some (.fix h88_L0 e88_L0 s88_L0) else none
noncomputable def g88 (x0:(L ((L Int)×Unit))) (x1:Int):Option ((Int×Unit)×Unit) :=
(fixO s88_L0 ((x0,(x1,((0:Int),()))),())).bind fun d3=>match d3 with | .inl y2=>some ((y2.1.1,()),()) | .inr (.inl y2)=>some ((y2.1.1,()),()) | .inr (.inr e)=>nomatch e
noncomputable def c88:Ctr:={ ins:=[.v Ty54,.v (.int .i64)],out:=[(.int .i64)],F:=fun x=>g88 x.1 x.2.1 }
noncomputable def l88:List (Nat×Code):=loopsIn (Tryz.f88.body.getD .skip) 0
theorem w88_L0:LW t88 a88 l88 0 0 h88_L0 e88_L0 s88_L0:=fun x=>by kernel_rfl
theorem o88:Holds Tryz.prog 88 c88:=fh t88 a88 Tryz.func88 [(0,lg l88 0)] ⟨fun x d h=>(w88_L0 x).trans h,trivial⟩ (tc o163 tn)
noncomputable def t89:Tbl:=[(163,[],c163)]
abbrev h89_L0:Shape:={ slots:=[(0,.v Ty131),(1,.v (.int .i64)),(5,.v (.int .i64))],boxes:=[] }
abbrev e89_L0:List (XT×Shape):=[(.ret,{ slots:=[(4,.v (.int .i64))],boxes:=[] }),(.exit 0,{ slots:=[(1,.v (.int .i64))],boxes:=[] })]
noncomputable def q89_L0 (t0:Ta20) (t1:Int) (t5:Int):Option (Ta115⊕(((Int×Unit)×Unit)⊕(((Int×Unit)×Unit)⊕Empty))) :=
bif (decide (t5 < (t0.len:Int))) then bif (decide (0≤t5)&&decide (t5 < (t0.len:Int))) then (g163 (L.get t0 t5.toNat).1 t1).bind fun y1=>bif (decide (y1.1.1 < (0:Int))) then some (.inr (.inl (((-1:Int),()),()))) else bif (decide (0≤t5)&&decide (t5 < (t0.len:Int))) then (g163 (L.get t0 t5.toNat).2.1 y1.1.1).bind fun y2=>bif (decide (y2.1.1 < (0:Int))) then some (.inr (.inl (((-1:Int),()),()))) else some (.inl ((t0,(y2.1.1,((wI (t5 + (1:Int))),()))),())) else none else none else some (.inr (.inr (.inl ((t1,()),()))))
noncomputable def s89_L0 (x:Ta115):=q89_L0 x.1.1 x.1.2.1 x.1.2.2.1
noncomputable def a89:Nat→Option LoopAnn:=fun c=>bif Nat.beq c 0 then some (.fix h89_L0 e89_L0 s89_L0) else none
noncomputable def g89 (x0:Ta20) (x1:Int):Option ((Int×Unit)×Unit) :=
(fixO s89_L0 ((x0,(x1,((0:Int),()))),())).bind fun d4=>match d4 with | .inl y3=>some ((y3.1.1,()),()) | .inr (.inl y3)=>some ((y3.1.1,()),()) | .inr (.inr e)=>nomatch e
noncomputable def c89:Ctr:={ ins:=[.v Ty131,.v (.int .i64)],out:=[(.int .i64)],F:=fun x=>g89 x.1 x.2.1 }
noncomputable def l89:List (Nat×Code):=loopsIn (Tryz.f89.body.getD .skip) 0
theorem w89_L0:LW t89 a89 l89 0 0 h89_L0 e89_L0 s89_L0:=fun x=>by kernel_rfl
theorem o89:Holds Tryz.prog 89 c89:=fh t89 a89 Tryz.func89 [(0,lg l89 0)] ⟨fun x d h=>(w89_L0 x).trans h,trivial⟩ (tc o163 tn)
noncomputable def t21:Tbl:=[(83,[],c83),(84,[],c84),(85,[],c85),(86,[],c86),(87,[],c87),(88,[],c88),(89,[],c89)]
noncomputable def g21 (x0:Ta357) (x1:Int):Option ((Int×Unit)×Unit) :=
(g83 x0.1 x1).bind fun y1=>bif (decide (y1.1.1 < (0:Int))) then some (((-1:Int),()),()) else (g84 x0.2.2.2.1 y1.1.1).bind fun y2=>bif (decide (y2.1.1 < (0:Int))) then some (((-1:Int),()),()) else (g85 x0.2.2.2.2.1 y2.1.1).bind fun y3=>bif (decide (y3.1.1 < (0:Int))) then some (((-1:Int),()),()) else (g86 x0.2.2.2.2.2.2.2.1 y3.1.1).bind fun y4=>bif (decide (y4.1.1 < (0:Int))) then some (((-1:Int),()),()) else (g87 x0.2.2.2.2.2.2.2.2.1 y4.1.1).bind fun y5=>bif (decide (y5.1.1 < (0:Int))) then some (((-1:Int),()),()) else (g88 x0.2.2.2.2.2.2.2.2.2.1 y5.1.1).bind fun y6=>bif (decide (y6.1.1 < (0:Int))) then some (((-1:Int),()),()) else (g89 x0.2.2.2.2.2.2.2.2.2.2.1 y6.1.1).bind fun y7=>bif (decide (y7.1.1 < (0:Int))) then some (((-1:Int),()),()) else some ((y7.1.1,()),())
noncomputable def c21:Ctr:={ ins:=[.v Ty380,.v (.int .i64)],out:=[(.int .i64)],F:=fun x=>g21 x.1 x.2.1 }
theorem o21:Holds Tryz.prog 21 c21:=f0 t21 Tryz.func21 (tc o83 (tc o84 (tc o85 (tc o86 (tc o87 (tc o88 (tc o89 tn)))))))
noncomputable def t6:Tbl:=[(9,[],c9),(22,[],c22),(12,[],c12r),(24,[],c24r),(28,[],c28r),(29,[],c29r),(15,[],c15),(16,[],c16),(18,[],c18w),(20,[],c20w),(21,[],c21)]
noncomputable def g6 (x0:Ta339) (x1:Int) (x2:Ta357) (x3:Int):Option ((Bool×Unit)×Unit) :=
(g9 x0 (1048576:Int)).bind fun y1=>bif (decide (y1.1.1 < (0:Int))) then some ((true,()),()) else (g22 x2 y1.1.1).bind fun y2=>bif (decide (y2.1.1 < (0:Int))) then some ((true,()),()) else (g12r x0).bind fun y3=>(g24r x2).bind fun y4=>(g28r (y3.1.1.1,(y3.1.1.2.1,(y3.1.1.2.2.1,(y3.1.1.2.2.2.1,(y3.1.1.2.2.2.2.1,(y3.1.1.2.2.2.2.2.1,(y3.1.1.2.2.2.2.2.2.1,y3.1.1.2.2.2.2.2.2.2))))))) x1 ((y4.1.1.1.1,(y4.1.1.1.2.1,y4.1.1.1.2.2)),(y4.1.1.2.1,(y4.1.1.2.2.1,((y4.1.1.2.2.2.1.1,y4.1.1.2.2.2.1.2),((y4.1.1.2.2.2.2.1.1,y4.1.1.2.2.2.2.1.2),(y4.1.1.2.2.2.2.2.1,(y4.1.1.2.2.2.2.2.2.1,y4.1.1.2.2.2.2.2.2.2))))))) x3).bind fun y5=>(g12r x0).bind fun y6=>(g24r x2).bind fun y7=>(g29r (y6.1.1.1,(y6.1.1.2.1,(y6.1.1.2.2.1,(y6.1.1.2.2.2.1,(y6.1.1.2.2.2.2.1,(y6.1.1.2.2.2.2.2.1,(y6.1.1.2.2.2.2.2.2.1,y6.1.1.2.2.2.2.2.2.2))))))) x1 ((y7.1.1.1.1,(y7.1.1.1.2.1,y7.1.1.1.2.2)),(y7.1.1.2.1,(y7.1.1.2.2.1,((y7.1.1.2.2.2.1.1,y7.1.1.2.2.2.1.2),((y7.1.1.2.2.2.2.1.1,y7.1.1.2.2.2.2.1.2),(y7.1.1.2.2.2.2.2.1,(y7.1.1.2.2.2.2.2.2.1,y7.1.1.2.2.2.2.2.2.2))))))) x3).bind fun y8=>(g15 ((y8.1.1.1.1,(y8.1.1.1.2.1,y8.1.1.1.2.2)),(y8.1.1.2.1,(y8.1.1.2.2.1,((y8.1.1.2.2.2.1.1,y8.1.1.2.2.2.1.2),((y8.1.1.2.2.2.2.1.1,y8.1.1.2.2.2.2.1.2),(y8.1.1.2.2.2.2.2.1,(y8.1.1.2.2.2.2.2.2.1,y8.1.1.2.2.2.2.2.2.2))))))) ((y5.1.1.1.1,(y5.1.1.1.2.1,y5.1.1.1.2.2)),(y5.1.1.2.1,(y5.1.1.2.2.1,((y5.1.1.2.2.2.1.1,y5.1.1.2.2.2.1.2),((y5.1.1.2.2.2.2.1.1,y5.1.1.2.2.2.2.1.2),(y5.1.1.2.2.2.2.2.1,(y5.1.1.2.2.2.2.2.2.1,y5.1.1.2.2.2.2.2.2.2)))))))).bind fun y9=>bif (!y9.1.1) then some ((false,()),()) else bif (!(y8.1.2.1 == y5.1.2.1)) then some ((false,()),()) else (g12r x0).bind fun y10=>(g16 (y6.1.1.1,(y6.1.1.2.1,(y6.1.1.2.2.1,(y6.1.1.2.2.2.1,(y6.1.1.2.2.2.2.1,(y6.1.1.2.2.2.2.2.1,(y6.1.1.2.2.2.2.2.2.1,y6.1.1.2.2.2.2.2.2.2))))))) (y10.1.1.1,(y10.1.1.2.1,(y10.1.1.2.2.1,(y10.1.1.2.2.2.1,(y10.1.1.2.2.2.2.1,(y10.1.1.2.2.2.2.2.1,(y10.1.1.2.2.2.2.2.2.1,y10.1.1.2.2.2.2.2.2.2)))))))).bind fun y11=>bif (!y11.1.1) then some ((false,()),()) else (g24r x2).bind fun y12=>(g15 ((y7.1.1.1.1,(y7.1.1.1.2.1,y7.1.1.1.2.2)),(y7.1.1.2.1,(y7.1.1.2.2.1,((y7.1.1.2.2.2.1.1,y7.1.1.2.2.2.1.2),((y7.1.1.2.2.2.2.1.1,y7.1.1.2.2.2.2.1.2),(y7.1.1.2.2.2.2.2.1,(y7.1.1.2.2.2.2.2.2.1,y7.1.1.2.2.2.2.2.2.2))))))) ((y12.1.1.1.1,(y12.1.1.1.2.1,y12.1.1.1.2.2)),(y12.1.1.2.1,(y12.1.1.2.2.1,((y12.1.1.2.2.2.1.1,y12.1.1.2.2.2.1.2),((y12.1.1.2.2.2.2.1.1,y12.1.1.2.2.2.2.1.2),(y12.1.1.2.2.2.2.2.1,(y12.1.1.2.2.2.2.2.2.1,y12.1.1.2.2.2.2.2.2.2)))))))).bind fun y13=>bif (!y13.1.1) then some ((false,()),()) else (g18w (y6.1.1.1,(y6.1.1.2.1,(y6.1.1.2.2.1,(y6.1.1.2.2.2.1,(y6.1.1.2.2.2.2.1,(y6.1.1.2.2.2.2.2.1,(y6.1.1.2.2.2.2.2.2.1,y6.1.1.2.2.2.2.2.2.2))))))) (1:Int)).bind fun y14=>(g20w ((y7.1.1.1.1,(y7.1.1.1.2.1,y7.1.1.1.2.2)),(y7.1.1.2.1,(y7.1.1.2.2.1,((y7.1.1.2.2.2.1.1,y7.1.1.2.2.2.1.2),((y7.1.1.2.2.2.2.1.1,y7.1.1.2.2.2.2.1.2),(y7.1.1.2.2.2.2.2.1,(y7.1.1.2.2.2.2.2.2.1,y7.1.1.2.2.2.2.2.2.2))))))) y14.1.1).bind fun y15=>bif (decide (y15.1.1 < (0:Int))) then some ((false,()),()) else (g15 ((y8.1.1.1.1,(y8.1.1.1.2.1,y8.1.1.1.2.2)),(y8.1.1.2.1,(y8.1.1.2.2.1,((y8.1.1.2.2.2.1.1,y8.1.1.2.2.2.1.2),((y8.1.1.2.2.2.2.1.1,y8.1.1.2.2.2.2.1.2),(y8.1.1.2.2.2.2.2.1,(y8.1.1.2.2.2.2.2.2.1,y8.1.1.2.2.2.2.2.2.2))))))) ((y5.1.1.1.1,(y5.1.1.1.2.1,y5.1.1.1.2.2)),(y5.1.1.2.1,(y5.1.1.2.2.1,((y5.1.1.2.2.2.1.1,y5.1.1.2.2.2.1.2),((y5.1.1.2.2.2.2.1.1,y5.1.1.2.2.2.2.1.2),(y5.1.1.2.2.2.2.2.1,(y5.1.1.2.2.2.2.2.2.1,y5.1.1.2.2.2.2.2.2.2)))))))).bind fun y16=>bif (!y16.1.1) then some ((false,()),()) else bif (!(y8.1.2.1 == y5.1.2.1)) then some ((false,()),()) else (g20w ((y8.1.1.1.1,(y8.1.1.1.2.1,y8.1.1.1.2.2)),(y8.1.1.2.1,(y8.1.1.2.2.1,((y8.1.1.2.2.2.1.1,y8.1.1.2.2.2.1.2),((y8.1.1.2.2.2.2.1.1,y8.1.1.2.2.2.2.1.2),(y8.1.1.2.2.2.2.2.1,(y8.1.1.2.2.2.2.2.2.1,y8.1.1.2.2.2.2.2.2.2))))))) (1:Int)).bind fun y17=>(g21 ((y17.2.1.1.1,(y8.1.1.1.2.1,y17.2.1.1.2.2)),(y8.1.1.2.1,(y8.1.1.2.2.1,((y8.1.1.2.2.2.1.1,y17.2.1.2.2.2.1.2),((y8.1.1.2.2.2.2.1.1,y17.2.1.2.2.2.2.1.2),(y8.1.1.2.2.2.2.2.1,(y8.1.1.2.2.2.2.2.2.1,y17.2.1.2.2.2.2.2.2.2))))))) (1:Int)).bind fun y18=>bif (decide (y18.1.1 < (0:Int))) then some ((false,()),()) else bif (y18.1.1 != y17.1.1) then some ((false,()),()) else (g12r x0).bind fun y19=>(g24r x2).bind fun y20=>(g29r (y19.1.1.1,(y19.1.1.2.1,(y19.1.1.2.2.1,(y19.1.1.2.2.2.1,(y19.1.1.2.2.2.2.1,(y19.1.1.2.2.2.2.2.1,(y19.1.1.2.2.2.2.2.2.1,y19.1.1.2.2.2.2.2.2.2))))))) x1 ((y20.1.1.1.1,(y20.1.1.1.2.1,y20.1.1.1.2.2)),(y20.1.1.2.1,(y20.1.1.2.2.1,((y20.1.1.2.2.2.1.1,y20.1.1.2.2.2.1.2),((y20.1.1.2.2.2.2.1.1,y20.1.1.2.2.2.2.1.2),(y20.1.1.2.2.2.2.2.1,(y20.1.1.2.2.2.2.2.2.1,y20.1.1.2.2.2.2.2.2.2))))))) x3).bind fun y21=>(g15 ((y21.1.1.1.1,(y21.1.1.1.2.1,y21.1.1.1.2.2)),(y21.1.1.2.1,(y21.1.1.2.2.1,((y21.1.1.2.2.2.1.1,y21.1.1.2.2.2.1.2),((y21.1.1.2.2.2.2.1.1,y21.1.1.2.2.2.2.1.2),(y21.1.1.2.2.2.2.2.1,(y21.1.1.2.2.2.2.2.2.1,y21.1.1.2.2.2.2.2.2.2))))))) ((y5.1.1.1.1,(y5.1.1.1.2.1,y5.1.1.1.2.2)),(y5.1.1.2.1,(y5.1.1.2.2.1,((y5.1.1.2.2.2.1.1,y5.1.1.2.2.2.1.2),((y5.1.1.2.2.2.2.1.1,y5.1.1.2.2.2.2.1.2),(y5.1.1.2.2.2.2.2.1,(y5.1.1.2.2.2.2.2.2.1,y5.1.1.2.2.2.2.2.2.2)))))))).bind fun y22=>bif (!y22.1.1) then some ((false,()),()) else bif (!(y21.1.2.1 == y5.1.2.1)) then some ((false,()),()) else (g21 ((y17.2.1.1.1,(y8.1.1.1.2.1,y17.2.1.1.2.2)),(y8.1.1.2.1,(y8.1.1.2.2.1,((y8.1.1.2.2.2.1.1,y17.2.1.2.2.2.1.2),((y8.1.1.2.2.2.2.1.1,y17.2.1.2.2.2.2.1.2),(y8.1.1.2.2.2.2.2.1,(y8.1.1.2.2.2.2.2.2.1,y17.2.1.2.2.2.2.2.2.2))))))) (1:Int)).bind fun y23=>bif (decide (y23.1.1 < (0:Int))) then some ((false,()),()) else bif (y23.1.1 != y17.1.1) then some ((false,()),()) else some ((true,()),())
noncomputable def c6:Ctr:={ ins:=[.v Ty379,.v (.int .i64),.v Ty380,.v (.int .i64)],out:=[.bool],F:=fun x=>g6 x.1 x.2.1 x.2.2.1 x.2.2.2.1 }
theorem o6:Holds Tryz.prog 6 c6:=f0 t6 Tryz.func6 (tc o9 (tc o22 (tc o12r (tc o24r (tc o28r (tc o29r (tc o15 (tc o16 (tc o18w (tc o20w (tc o21 tn)))))))))))
end Go.VE.VFnExactPartSlot
