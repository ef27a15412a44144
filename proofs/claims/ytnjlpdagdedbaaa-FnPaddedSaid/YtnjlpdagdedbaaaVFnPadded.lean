import Derived.Test.YtnjlpdagdedbaaaVk9
import Derived.Test.YtnjlpdagdedbaaaProg
/- What the functions do that laws.FnPadded reaches, as plain functions, and that they do it. -/
set_option linter.unusedVariables false
set_option linter.unusedSimpArgs false
namespace Go.VE.VFnPadded
open Go.Proofs Go.VE
abbrev Ta0 : Type := (Unit×(Unit×(Int×Unit)))
abbrev Ta1 : Type := (Int×(Unit×(Unit×Unit)))
abbrev Ty2 : Ty := (.pair (.int .i64) .unit)
abbrev Ta3 : Type := (Bool×(Bool×(Bool×Unit)))
abbrev Ta4 : Type := (Unit×(Unit×(Unit×Unit)))
abbrev Ta5 : Type := (L (L (Int×(Bool×Unit))))
abbrev Ta6 : Type := ((L Int)×(Int×(Int×Unit)))
abbrev Ta7 : Type := (L (Int×(Int×(Int×Unit))))
abbrev Ta8 : Type := (Int×(Int×(Int×(Int×Unit))))
abbrev Ta9 : Type := (Int×(Int×(Int×(Unit×Unit))))
abbrev Ta10 : Type := ((Int×(Int×(Int×Unit)))×Unit)
abbrev Ta11 : Type := ((Int×Unit)×(Int×(Int×Unit)))
abbrev Ta12 : Type := (Unit×(Unit×(Int×(Int×Unit))))
abbrev Ta13 : Type := (Int×Ta0)
abbrev Ta14 : Type := (L Ta8)
abbrev Ta15 : Type := (Unit×Ta4)
abbrev Ta16 : Type := (Ta5×Unit)
abbrev Ta17 : Type := (Ta6×Unit)
abbrev Ta18 : Type := (Ta7×Unit)
abbrev Ta19 : Type := (Int×Ta8)
abbrev Ta20 : Type := ((L (Int×(Bool×Unit)))×(Int×Unit))
abbrev Ta21 : Type := (Ta8×Unit)
abbrev Ta22 : Type := (Int×Ta12)
abbrev Ta23 : Type := (Unit×Ta13)
abbrev Ta24 : Type := (Int×Ta15)
abbrev Ta25 : Type := (Int×Ta16)
abbrev Ty26 : Ty := (.pair (.int .i64) (.pair .bool .unit))
abbrev Ta27 : Type := (Int×Ta19)
abbrev Ta28 : Type := ((L (Int×(Bool×Unit)))×(Int×(Int×Unit)))
abbrev Ta29 : Type := (Int×Ta20)
abbrev Ta30 : Type := (Unit×Ta22)
abbrev Ta31 : Type := (Int×Ta24)
abbrev Ta32 : Type := (Int×Ta25)
abbrev Ta33 : Type := (Ta5×(Int×(Int×Unit)))
abbrev Ty34 : Ty := (.pair (.int .i64) Ty2)
abbrev Ty35 : Ty := (.sl Ty26)
abbrev Ta36 : Type := (Ta7×(Int×(Int×Unit)))
abbrev Ta37 : Type := (Int×Ta27)
abbrev Ta38 : Type := (Int×Ta28)
abbrev Ta39 : Type := (Unit×Ta29)
abbrev Ta40 : Type := (Int×Ta31)
abbrev Ta41 : Type := (Int×Ta32)
abbrev Ta42 : Type := (Int×Ta33)
abbrev Ty43 : Ty := (.sl Ty35)
abbrev Ta44 : Type := (Int×Ta36)
abbrev Ta45 : Type := (Ta14×(Int×(Int×Unit)))
abbrev Ta46 : Type := (Unit×Ta33)
abbrev Ta47 : Type := ((Int×(Int×Unit))×Ta18)
abbrev Ta48 : Type := (Int×Ta38)
abbrev Ta49 : Type := (Ta37×Unit)
abbrev Ta50 : Type := ((Unit×(Int×Unit))×Ta18)
abbrev Ta51 : Type := (Int×Ta40)
abbrev Ta52 : Type := (Ta41×Unit)
abbrev Ta53 : Type := ((Int×(Int×(Int×Unit)))×Ta16)
abbrev Ta54 : Type := (Int×Ta45)
abbrev Ta55 : Type := (Ta42×Unit)
abbrev Ta56 : Type := (Int×Ta47)
abbrev Ta57 : Type := (Ta5×Ta16)
abbrev Ta58 : Type := (Int×Ta51)
abbrev Ta59 : Type := (Ta53×Unit)
abbrev Ta60 : Type := (Ta9×Ta16)
abbrev Ty61 : Ty := (.pair (.int .i64) Ty34)
abbrev Ty62 : Ty := (.pair Ty43 .unit)
abbrev Ta63 : Type := (Ta14×Ta18)
abbrev Ta64 : Type := (Int×Ta58)
abbrev Ty65 : Ty := (.pair (.sl (.int .u8)) Ty34)
abbrev Ta66 : Type := (ByteArray×Ta56)
abbrev Ty67 : Ty := (.sl Ty61)
abbrev Ta68 : Type := (L Ta66)
abbrev Ta69 : Type := (Int×Ta64)
abbrev Ta70 : Type := (Ta66×Unit)
abbrev Ta71 : Type := ((L Int)×Ta63)
abbrev Ta72 : Type := ((Unit×(Int×(Int×Unit)))×Ta49)
abbrev Ta73 : Type := (Int×Ta69)
abbrev Ta74 : Type := (Ta5×Ta48)
abbrev Ta75 : Type := ((L (Int×(Bool×Unit)))×Ta57)
abbrev Ta76 : Type := ((Unit×(Int×Unit))×Ta59)
abbrev Ty77 : Ty := (.pair (.int .i64) Ty61)
abbrev Ty78 : Ty := (.pair Ty67 .unit)
abbrev Ta79 : Type := (Int×Ta73)
abbrev Ty80 : Ty := (.sl Ty77)
abbrev Ta81 : Type := (Int×Ta79)
abbrev Ta82 : Type := (Ta68×(Int×(Int×Unit)))
abbrev Ta83 : Type := (Int×Ta81)
abbrev Ta84 : Type := (Ta59×Ta17)
abbrev Ta85 : Type := (Int×Ta83)
abbrev Ta86 : Type := ((Int×(Bool×Unit))×Ta75)
abbrev Ty87 : Ty := (.pair (.int .i64) Ty77)
abbrev Ta88 : Type := (Ta7×Ta70)
abbrev Ta89 : Type := (Int×Ta85)
abbrev Ta90 : Type := (Ta41×Ta52)
abbrev Ta91 : Type := (Ta39×Ta59)
abbrev Ta92 : Type := (Int×Ta89)
abbrev Ta93 : Type := (Ta46×Ta59)
abbrev Ta94 : Type := (Int×Ta92)
abbrev Ta95 : Type := (Ta53×Ta60)
abbrev Ty96 : Ty := (.pair (.int .i64) Ty87)
abbrev Ta97 : Type := (Ta9×Ta86)
abbrev Ty98 : Ty := (.pair Ty34 Ty78)
abbrev Ty99 : Ty := (.pair Ty61 Ty62)
abbrev Ta100 : Type := (Ta6×Ta90)
abbrev Ty101 : Ty := (.pair (.int .i64) Ty96)
abbrev Ta102 : Type := (Ta68×Ta71)
abbrev Ty103 : Ty := (.pair (.int .i64) Ty98)
abbrev Ta104 : Type := (Int×Ta102)
abbrev Ta105 : Type := (Int×Ta104)
abbrev Ta106 : Type := (Ta9×Ta97)
abbrev Ty107 : Ty := (.pair .str Ty103)
abbrev Ta108 : Type := (Int×Ta105)
abbrev Ty109 : Ty := (.sl Ty107)
abbrev Ta110 : Type := (Int×Ta108)
abbrev Ta111 : Type := (Ta23×Ta100)
abbrev Ta112 : Type := (Ta7×Ta102)
abbrev Ta113 : Type := (Int×Ta110)
abbrev Ty114 : Ty := (.pair Ty80 Ty78)
abbrev Ta115 : Type := (Int×Ta113)
abbrev Ta116 : Type := (Int×Ta115)
abbrev Ta117 : Type := (Int×Ta116)
abbrev Ta118 : Type := (Int×Ta117)
abbrev Ty119 : Ty := (.pair (.sl (.int .i64)) Ty114)
abbrev Ta120 : Type := (Int×Ta118)
abbrev Ta121 : Type := (Ta14×Ta112)
abbrev Ta122 : Type := (Int×Ta120)
abbrev Ta123 : Type := (Ta37×Ta108)
abbrev Ta124 : Type := (Int×Ta122)
abbrev Ta125 : Type := (Int×Ta123)
abbrev Ta126 : Type := (Ta53×Ta106)
abbrev Ta127 : Type := ((L Int)×Ta121)
abbrev Ta128 : Type := (Int×Ta124)
abbrev Ta129 : Type := (Int×Ta128)
abbrev Ta130 : Type := (Int×Ta129)
abbrev Ta131 : Type := ((Int×(Int×(Int×Unit)))×Ta125)
abbrev Ta132 : Type := (Int×Ta131)
abbrev Ta133 : Type := (Ta132×Unit)
abbrev Ta134 : Type := ((Unit×Unit)×Ta133)
abbrev Ta135 : Type := ((Unit×(Int×Unit))×Ta133)
abbrev Ta136 : Type := ((Unit×(Int×(Int×Unit)))×Ta133)
abbrev Ta137 : Type := (Ta68×Ta127)
abbrev Ta138 : Type := (Ta132×Ta88)
abbrev Ty139 : Ty := (.pair Ty109 Ty119)
abbrev Ty140 : Ty := (.pair (.int .i64) Ty139)
abbrev Ta141 : Type := (Ta94×Ta137)
abbrev Ty142 : Ty := (.pair (.int .i64) Ty140)
abbrev Ty143 : Ty := (.pair (.int .i64) Ty142)
abbrev Ta144 : Type := (Ta94×Ta141)
abbrev Ta145 : Type := (Ta6×Ta144)
abbrev Ty146 : Ty := (.pair Ty101 Ty143)
abbrev Ta147 : Type := (Ta23×Ta145)
abbrev Ty148 : Ty := (.pair (.int .i64) Ty146)
abbrev Ty149 : Ty := (.pair Ty61 Ty148)
abbrev Ty150 : Ty := (.pair (.int .i64) Ty149)
def om {α β : Type} (f : α → β) (o : Option α) : Option β := match o with
  | some y => some (f y)
  | none => none
def ob {α β : Type} (o : Option α) (f : α → Option β) : Option β := match o with
  | some y => f y
  | none => none
def Γ : TypeId → Option Ty := fun e => bif Nat.beq e 3 then some (.int .i64) else bif Nat.beq e 5 then some (.int .u8) else bif Nat.beq e 9 then some .str else bif Nat.beq e 77 then some Ty61 else bif Nat.beq e 120 then some Ty35 else bif Nat.beq e 122 then some Ty26 else bif Nat.beq e 124 then some Ty77 else bif Nat.beq e 140 then some Ty107 else bif Nat.beq e 142 then some Ty61 else none
theorem gamOk : GamOk Try.prog Γ := gamOk_of [3, 5, 9, 77, 120, 122, 124, 140, 142] (fun e ty h => by
  simp only [Γ] at h
  cases h3 : Nat.beq e 3 with
  | true => simp [Nat.eq_of_beq_eq_true h3]
  | false =>
  simp only [h3, cond_false] at h
  cases h5 : Nat.beq e 5 with
  | true => simp [Nat.eq_of_beq_eq_true h5]
  | false =>
  simp only [h5, cond_false] at h
  cases h9 : Nat.beq e 9 with
  | true => simp [Nat.eq_of_beq_eq_true h9]
  | false =>
  simp only [h9, cond_false] at h
  cases h77 : Nat.beq e 77 with
  | true => simp [Nat.eq_of_beq_eq_true h77]
  | false =>
  simp only [h77, cond_false] at h
  cases h120 : Nat.beq e 120 with
  | true => simp [Nat.eq_of_beq_eq_true h120]
  | false =>
  simp only [h120, cond_false] at h
  cases h122 : Nat.beq e 122 with
  | true => simp [Nat.eq_of_beq_eq_true h122]
  | false =>
  simp only [h122, cond_false] at h
  cases h124 : Nat.beq e 124 with
  | true => simp [Nat.eq_of_beq_eq_true h124]
  | false =>
  simp only [h124, cond_false] at h
  cases h140 : Nat.beq e 140 with
  | true => simp [Nat.eq_of_beq_eq_true h140]
  | false =>
  simp only [h140, cond_false] at h
  cases h142 : Nat.beq e 142 with
  | true => simp [Nat.eq_of_beq_eq_true h142]
  | false =>
  simp only [h142, cond_false] at h
  cases h) (by kernel_rfl)
theorem mo : Try.prog.follows .mixedOrders = true := by kernel_rfl
theorem tn : TblOk Try.prog [] := tblOk_nil
theorem tc {f : Nat} {gs : List Nat} {c : Ctr} {r : Tbl} (h : Holds Try.prog f c) (hr : TblOk Try.prog r) : TblOk Try.prog ((f, gs, c) :: r) := tblOk_cons h hr
noncomputable def a0 : Nat → Option LoopAnn := fun _ => none
noncomputable def lg (l : List (Nat × Code)) (j : Nat) : Code := (l.getD j (0, .skip)).2
abbrev LW (T : Tbl) (A : Nat → Option LoopAnn) (l : List (Nat × Code)) (j ctx : Nat) (h : Shape) (es : List (XT × Shape)) (s : h.T → Option (h.T ⊕ ExT es)) : Prop := ∀ x : h.T, runK Try.prog Γ T A (lg l j) ctx (pkSh h x) (loopCls (sh := h) (es := es)) = (s x : Option _)
section
variable {k : Nat} {fn : Func} {c : Ctr}
theorem fhT (T : Tbl) (A : Nat → Option LoopAnn) (G : InsT c.ins → Option (TysT c.out × PtT c.ins)) (hf : Try.prog.funcs[k]? = some fn) (l : List (Nat × Code)) (hl : LoopsOk Try.prog Γ T A l) (hT : TblOk Try.prog T) (hn : ∀ x, G x = c.F x) (hr : ∀ x, fnK Try.prog Γ T A fn c x = G x := by intro x; kernel_rfl) (he : loopsIn (fn.body.getD .skip) 0 = l := by kernel_rfl) (h1 : (fn.name == "runtime.NumGoroutine") = false := by kernel_rfl) (h2 : fn.body = some (fn.body.getD .skip) := by kernel_rfl)
    (h3 : Nat.ble c.ins.length fn.ntmps = true := by kernel_rfl) (h4 : dstsOk fn.ntmps (fn.body.getD .skip) = true := by kernel_rfl) : Holds Try.prog k c :=
  fn_holds (code := fn.body.getD .skip) mo gamOk hT hf h1 h2 h3 h4 (by rw [he]; exact hl) (fun x _ h => (hr x).trans ((hn x).trans h))
theorem fh (T : Tbl) (A : Nat → Option LoopAnn) (hf : Try.prog.funcs[k]? = some fn) (l : List (Nat × Code)) (hl : LoopsOk Try.prog Γ T A l) (hT : TblOk Try.prog T) (hr : ∀ x, fnK Try.prog Γ T A fn c x = c.F x := by intro x; kernel_rfl) (he : loopsIn (fn.body.getD .skip) 0 = l := by kernel_rfl) (h1 : (fn.name == "runtime.NumGoroutine") = false := by kernel_rfl) (h2 : fn.body = some (fn.body.getD .skip) := by kernel_rfl)
    (h3 : Nat.ble c.ins.length fn.ntmps = true := by kernel_rfl) (h4 : dstsOk fn.ntmps (fn.body.getD .skip) = true := by kernel_rfl) : Holds Try.prog k c := fhT T A c.F hf l hl hT (fun _ => rfl) hr he h1 h2 h3 h4
theorem f0T (T : Tbl) (G : InsT c.ins → Option (TysT c.out × PtT c.ins)) (hf : Try.prog.funcs[k]? = some fn) (hT : TblOk Try.prog T) (hn : ∀ x, G x = c.F x) (hr : ∀ x, fnK Try.prog Γ T a0 fn c x = G x := by intro x; kernel_rfl) (he : loopsIn (fn.body.getD .skip) 0 = [] := by kernel_rfl) (h1 : (fn.name == "runtime.NumGoroutine") = false := by kernel_rfl) (h2 : fn.body = some (fn.body.getD .skip) := by kernel_rfl)
    (h3 : Nat.ble c.ins.length fn.ntmps = true := by kernel_rfl) (h4 : dstsOk fn.ntmps (fn.body.getD .skip) = true := by kernel_rfl) : Holds Try.prog k c := fhT T a0 G hf [] trivial hT hn hr he h1 h2 h3 h4
theorem f0 (T : Tbl) (hf : Try.prog.funcs[k]? = some fn) (hT : TblOk Try.prog T) (hr : ∀ x, fnK Try.prog Γ T a0 fn c x = c.F x := by intro x; kernel_rfl) (he : loopsIn (fn.body.getD .skip) 0 = [] := by kernel_rfl) (h1 : (fn.name == "runtime.NumGoroutine") = false := by kernel_rfl) (h2 : fn.body = some (fn.body.getD .skip) := by kernel_rfl)
    (h3 : Nat.ble c.ins.length fn.ntmps = true := by kernel_rfl) (h4 : dstsOk fn.ntmps (fn.body.getD .skip) = true := by kernel_rfl) : Holds Try.prog k c := fhT T a0 c.F hf [] trivial hT (fun _ => rfl) hr he h1 h2 h3 h4
end
noncomputable def t37:Tbl:=[]
noncomputable def g37 (x0:(L Int)):Option ((Bool×Unit)×Unit) :=
some (((decide ((x0.len:Int) > (1048576:Int))),()),())
noncomputable def f37 (x0:(L Int)):Bool :=
(decide ((x0.len:Int) > (1048576:Int)))
theorem n37 (x0:(L Int)):g37 x0 = some ((f37 x0,()),()):=by simp only [g37,f37,pull1]
noncomputable def c37:Ctr:={ ins:=[.v (.sl (.int .u8))],out:=[.bool],F:=fun x=>some ((f37 x.1,()),()) }
theorem o37:Holds Try.prog 37 c37:=f0T t37 (fun x=>g37 x.1) Try.func37 tn (fun x=>n37 x.1)
noncomputable def t82:Tbl:=[]
abbrev h82_L0:Shape:={ slots:=[(0,.v (.sl (.int .u8))),(3,.v (.int .i64)),(4,.v (.int .i64))],boxes:=[] }
abbrev e82_L0:List (XT×Shape):=[(.exit 0,{ slots:=[(0,.v (.sl (.int .u8))),(3,.v (.int .i64))],boxes:=[] })]
noncomputable def q82_L0 (t0:(L Int)) (t3:Int) (t4:Int):Option (Ta17⊕((((L Int)×(Int×Unit))×Unit)⊕Empty)) :=
bif (decide (t4 < (t0.len:Int))) then bif (decide (t4 < (4000:Int))) then bif (decide (0≤t4)&&decide (t4 < (t0.len:Int))) then some (.inl ((t0,((andOf .i64 (wI ((wI ((wI (t3 * (131:Int))) + (wI ((L.get t0 t4.toNat))))) + (7:Int))) (1073741823:Int)),((wI (t4 + (1:Int))),()))),())) else none else some (.inr (.inl ((t0,(t3,())),()))) else some (.inr (.inl ((t0,(t3,())),())))
noncomputable def s82_L0 (x:Ta17):=q82_L0 x.1.1 x.1.2.1 x.1.2.2.1
noncomputable def a82:Nat→Option LoopAnn:=fun c=>bif Nat.beq c 0 then some (.fix h82_L0 e82_L0 s82_L0) else none
noncomputable def g82 (x0:(L Int)):Option (Ta17×Unit) :=
(fixO s82_L0 ((x0,((wI ((76076:Int) + (x0.len:Int))),((0:Int),()))),())).bind fun d2=>match d2 with | .inl y1=>some (((y1.1.1,((0:Int),y1.1.2)),()),()) | .inr e=>nomatch e
noncomputable def c82:Ctr:={ ins:=[.v (.sl (.int .u8))],out:=[Ty65],F:=fun x=>g82 x.1,ptr:=true }
noncomputable def l82:List (Nat×Code):=loopsIn (Try.f82.body.getD .skip) 0
theorem w82_L0:LW t82 a82 l82 0 0 h82_L0 e82_L0 s82_L0:=fun x=>by kernel_rfl
theorem o82:Holds Try.prog 82 c82:=fh t82 a82 Try.func82 [(0,lg l82 0)] ⟨fun x d h=>(w82_L0 x).trans h,trivial⟩ tn
noncomputable def t112d:Tbl:=[]
noncomputable def g112d (x0:Ta6):Option ((Int×Unit)×Ta17) :=
bif (decide (x0.2.1 < (x0.1.len:Int))) then bif (decide (0≤x0.2.1)&&decide (x0.2.1 < (x0.1.len:Int))) then some (((andOf .i64 (wI ((andOf .i64 (xorOf .i64 (shrOf .i64 (wI ((wI (x0.2.2.1 * (6364136223846793005:Int))) + (1442695040888963407:Int))) (33:Int)) (shrOf .i64 (wI ((wI (x0.2.2.1 * (6364136223846793005:Int))) + (1442695040888963407:Int))) (45:Int))) (255:Int)) + (wI ((L.get x0.1 x0.2.1.toNat))))) (255:Int)),()),((x0.1,((wI (x0.2.1 + (1:Int))),((wI ((wI (x0.2.2.1 * (6364136223846793005:Int))) + (1442695040888963407:Int))),()))),())) else none else some (((andOf .i64 (xorOf .i64 (shrOf .i64 (wI ((wI (x0.2.2.1 * (6364136223846793005:Int))) + (1442695040888963407:Int))) (33:Int)) (shrOf .i64 (wI ((wI (x0.2.2.1 * (6364136223846793005:Int))) + (1442695040888963407:Int))) (45:Int))) (255:Int)),()),((x0.1,(x0.2.1,((wI ((wI (x0.2.2.1 * (6364136223846793005:Int))) + (1442695040888963407:Int))),()))),()))
noncomputable def c112d:Ctr:={ ins:=[.pd Ty65],out:=[(.int .i64)],F:=fun x=>g112d x.1 }
theorem o112d:Holds Try.prog 112 c112d:=f0 t112d Try.func112 tn
noncomputable def t84d:Tbl:=[(112,[],c112d)]
noncomputable def g84d (x0:Ta6) (x1:Int):Option ((Int×Unit)×Ta17) :=
bif (decide (x1≤(0:Int))) then some (((0:Int),()),(x0,())) else bif (decide (x1≤(256:Int))) then (g112d x0).bind fun y1=>bif (!decide (x1 = 0)) then some (((Int.tmod y1.1.1 x1),()),(y1.2.1,())) else none else (g112d x0).bind fun y2=>(g112d y2.2.1).bind fun y3=>(g112d y3.2.1).bind fun y4=>(g112d y4.2.1).bind fun y5=>bif (!decide (x1 = 0)) then some (((Int.tmod (wI ((wI ((wI ((wI (y2.1.1 * (16777216:Int))) + (wI (y3.1.1 * (65536:Int))))) + (wI (y4.1.1 * (256:Int))))) + y5.1.1)) x1),()),(y5.2.1,())) else none
noncomputable def c84d:Ctr:={ ins:=[.pd Ty65,.v (.int .i64)],out:=[(.int .i64)],F:=fun x=>g84d x.1 x.2.1 }
theorem o84d:Holds Try.prog 84 c84d:=f0 t84d Try.func84 (tc o112d tn)
noncomputable def t87dw:Tbl:=[(84,[],c84d)]
noncomputable def g87dw (x0:Ta6) (x1:(L Int)):Option ((Int×Unit)×(Ta6×((L Int)×Unit))) :=
(g84d x0 (x1.len:Int)).bind fun y1=>bif (decide (0≤y1.1.1)&&decide (y1.1.1 < (x1.len:Int))) then some (((L.get x1 y1.1.1.toNat),()),(y1.2.1,x1,())) else none
noncomputable def c87dw:Ctr:={ ins:=[.pd Ty65,.ow (.sl (.int .i64))],out:=[(.int .i64)],F:=fun x=>g87dw x.1 x.2.1 }
theorem o87dw:Holds Try.prog 87 c87dw:=f0 t87dw Try.func87 (tc o84d tn)
noncomputable def t113d:Tbl:=[(84,[],c84d),(87,[],c87dw)]
noncomputable def g113d (x0:Ta6):Option (((Int×(Int×Unit))×Unit)×Ta17) :=
(g84d x0 (3:Int)).bind fun y1=>bif (y1.1.1 == (1:Int)) then (g87dw y1.2.1 (L.of (Ty.zero (.int .i64)) [(0:Int),(1:Int),(2:Int),(3:Int),(100:Int)])).bind fun y2=>some (((y1.1.1,y2.1),()),(y2.2.1,())) else some (((y1.1.1,((0:Int),())),()),(y1.2.1,()))
noncomputable def c113d:Ctr:={ ins:=[.pd Ty65],out:=[Ty34],F:=fun x=>g113d x.1 }
theorem o113d:Holds Try.prog 113 c113d:=f0 t113d Try.func113 (tc o84d (tc o87dw tn))
noncomputable def t86d:Tbl:=[(84,[],c84d)]
noncomputable def g86d (x0:Ta6) (x1:Int):Option ((Bool×Unit)×Ta17) :=
(g84d x0 x1).bind fun y1=>some (((y1.1.1 == (0:Int)),()),(y1.2.1,()))
noncomputable def c86d:Ctr:={ ins:=[.pd Ty65,.v (.int .i64)],out:=[.bool],F:=fun x=>g86d x.1 x.2.1 }
theorem o86d:Holds Try.prog 86 c86d:=f0 t86d Try.func86 (tc o84d tn)
noncomputable def t114d:Tbl:=[(84,[],c84d),(86,[],c86d)]
noncomputable def g114d (x0:Ta6) (x1:Int):Option (Ta21×Ta17) :=
(g84d x0 (2:Int)).bind fun y1=>(g84d y1.2.1 x1).bind fun y2=>(g84d y2.2.1 (wI (x1 - (1:Int)))).bind fun y3=>bif (!decide (x1 = 0)) then bif (y1.1.1 == (1:Int)) then (g84d y3.2.1 (4:Int)).bind fun y4=>(g86d y4.2.1 (6:Int)).bind fun y5=>bif y5.1.1 then some (((y1.1.1,(y2.1.1,((Int.tmod (wI ((wI (y2.1.1 + (1:Int))) + y3.1.1)) x1),((8:Int),())))),()),(y5.2.1,())) else some (((y1.1.1,(y2.1.1,((Int.tmod (wI ((wI (y2.1.1 + (1:Int))) + y3.1.1)) x1),((wI ((1:Int) + y4.1.1)),())))),()),(y5.2.1,())) else some (((y1.1.1,(y2.1.1,((Int.tmod (wI ((wI (y2.1.1 + (1:Int))) + y3.1.1)) x1),((0:Int),())))),()),(y3.2.1,())) else none
noncomputable def c114d:Ctr:={ ins:=[.pd Ty65,.v (.int .i64)],out:=[Ty77],F:=fun x=>g114d x.1 x.2.1 }
theorem o114d:Holds Try.prog 114 c114d:=f0 t114d Try.func114 (tc o84d (tc o86d tn))
noncomputable def t60:Tbl:=[]
noncomputable def g60 (x0:Int) (x1:Int) (x2:Int):Option ((Bool×Unit)×Unit) :=
bif (decide (x0 ≥ x1)) then some (((decide (x0≤x2)),()),()) else some ((false,()),())
noncomputable def f60 (x0:Int) (x1:Int) (x2:Int):Bool :=
bif (decide (x0 ≥ x1)) then (decide (x0≤x2)) else false
theorem n60 (x0:Int) (x1:Int) (x2:Int):g60 x0 x1 x2 = some ((f60 x0 x1 x2,()),()):=by simp only [g60,f60,pull1]
noncomputable def c60:Ctr:={ ins:=[.v (.int .i64),.v (.int .i64),.v (.int .i64)],out:=[.bool],F:=fun x=>some ((f60 x.1 x.2.1 x.2.2.1,()),()) }
theorem o60:Holds Try.prog 60 c60:=f0T t60 (fun x=>g60 x.1 x.2.1 x.2.2.1) Try.func60 tn (fun x=>n60 x.1 x.2.1 x.2.2.1)
noncomputable def t138:Tbl:=[(60,[],c60)]
noncomputable def g138 (x0:Ta37):Option ((Bool×Unit)×Unit) :=
bif (f60 x0.1 (1:Int) (20:Int)) then bif (f60 x0.2.1 (0:Int) (50:Int)) then bif (f60 x0.2.2.1 (0:Int) (50:Int)) then bif (f60 x0.2.2.2.1 (0:Int) (50:Int)) then bif (f60 x0.2.2.2.2.1 (0:Int) (50:Int)) then bif (f60 x0.2.2.2.2.2.1 (0:Int) (50:Int)) then some (((f60 x0.2.2.2.2.2.2.1 (0:Int) (50:Int)),()),()) else some ((false,()),()) else some ((false,()),()) else some ((false,()),()) else some ((false,()),()) else some ((false,()),()) else some ((false,()),())
noncomputable def f138 (x0:Ta37):Bool :=
bif (f60 x0.1 (1:Int) (20:Int)) then bif (f60 x0.2.1 (0:Int) (50:Int)) then bif (f60 x0.2.2.1 (0:Int) (50:Int)) then bif (f60 x0.2.2.2.1 (0:Int) (50:Int)) then bif (f60 x0.2.2.2.2.1 (0:Int) (50:Int)) then bif (f60 x0.2.2.2.2.2.1 (0:Int) (50:Int)) then (f60 x0.2.2.2.2.2.2.1 (0:Int) (50:Int)) else false else false else false else false else false else false
theorem n138 (x0:Ta37):g138 x0 = some ((f138 x0,()),()):=by simp only [g138,f138,pull1]
noncomputable def c138:Ctr:={ ins:=[.v Ty101],out:=[.bool],F:=fun x=>some ((f138 x.1,()),()) }
theorem o138:Holds Try.prog 138 c138:=f0T t138 (fun x=>g138 x.1) Try.func138 (tc o60 tn) (fun x=>n138 x.1)
noncomputable def t175r:Tbl:=[]
noncomputable def g175r:Option (((L Int)×Unit)×Unit) :=
some (((L.of (Ty.zero (.int .i64)) [(0:Int),(7:Int),(7:Int),(7:Int),(7:Int),(7:Int),(7:Int),(7:Int),(7:Int),(7:Int),(7:Int),(7:Int),(7:Int),(11:Int),(9:Int),(11:Int),(11:Int),(11:Int),(11:Int),(11:Int),(11:Int),(11:Int),(9:Int),(10:Int),(1:Int),(11:Int),(11:Int),(11:Int),(9:Int),(9:Int),(0:Int),(0:Int),(8:Int)]),()),())
noncomputable def f175r:(L Int) :=
(L.of (Ty.zero (.int .i64)) [(0:Int),(7:Int),(7:Int),(7:Int),(7:Int),(7:Int),(7:Int),(7:Int),(7:Int),(7:Int),(7:Int),(7:Int),(7:Int),(11:Int),(9:Int),(11:Int),(11:Int),(11:Int),(11:Int),(11:Int),(11:Int),(11:Int),(9:Int),(10:Int),(1:Int),(11:Int),(11:Int),(11:Int),(9:Int),(9:Int),(0:Int),(0:Int),(8:Int)])
theorem n175r:g175r = some ((f175r,()),()):=by simp only [g175r,f175r,pull1]
noncomputable def c175r:Ctr:={ ins:=[],out:=[(.sl (.int .i64))],F:=fun x=>some ((f175r,()),()),fr:=1 }
theorem o175r:Holds Try.prog 175 c175r:=f0T t175r (fun x=>g175r) Try.func175 tn (fun x=>n175r)
noncomputable def t165:Tbl:=[(60,[],c60),(175,[],c175r)]
noncomputable def g165 (x0:Int):Option ((Int×Unit)×Unit) :=
bif (!(f60 x0 (0:Int) (32:Int))) then some (((-1:Int),()),()) else bif (decide (0≤x0)&&decide (x0 < ((f175r).len:Int))) then some (((L.get (f175r) x0.toNat),()),()) else none
noncomputable def c165:Ctr:={ ins:=[.v (.int .i64)],out:=[(.int .i64)],F:=fun x=>g165 x.1 }
theorem o165:Holds Try.prog 165 c165:=f0 t165 Try.func165 (tc o60 (tc o175r tn))
noncomputable def t143:Tbl:=[(138,[],c138),(165,[],c165),(60,[],c60)]
noncomputable def g143 (x0:Ta37) (x1:Int):Option ((Int×Unit)×Unit) :=
bif (!(f138 x0)) then some (((-1:Int),()),()) else (g165 x1).bind fun y1=>bif (decide (y1.1.1 < (0:Int))) then some (((-1:Int),()),()) else bif (x1 == (9:Int)) then some (((wI (x0.1 + x0.2.1)),()),()) else bif (x1 == (10:Int)) then some (((wI (x0.1 + x0.2.1)),()),()) else bif (f60 x1 (15:Int) (18:Int)) then some (((wI (x0.1 + x0.2.2.1)),()),()) else bif (decide (x1 ≥ (25:Int))) then some (((wI (x0.1 + x0.2.2.2.2.2.1)),()),()) else some ((x0.1,()),())
noncomputable def c143:Ctr:={ ins:=[.v Ty101,.v (.int .i64)],out:=[(.int .i64)],F:=fun x=>g143 x.1 x.2.1 }
theorem o143:Holds Try.prog 143 c143:=f0 t143 Try.func143 (tc o138 (tc o165 (tc o60 tn)))
noncomputable def t166:Tbl:=[(138,[],c138)]
noncomputable def g166 (x0:Ta37) (x1:Ta3):Option ((Int×Unit)×Unit) :=
bif (!(f138 x0)) then some (((-1:Int),()),()) else bif (!x1.1) then bif (!x1.2.1) then bif x1.2.2.1 then some (((wI ((wI ((wI ((0:Int) + x0.2.2.2.1)) + x0.2.2.2.2.1)) + x0.2.2.2.2.2.2.1)),()),()) else some (((wI ((wI ((0:Int) + x0.2.2.2.1)) + x0.2.2.2.2.1)),()),()) else bif x1.2.2.1 then some (((wI ((wI ((0:Int) + x0.2.2.2.1)) + x0.2.2.2.2.2.2.1)),()),()) else some (((wI ((0:Int) + x0.2.2.2.1)),()),()) else bif (!x1.2.1) then bif x1.2.2.1 then some (((wI ((wI ((0:Int) + x0.2.2.2.2.1)) + x0.2.2.2.2.2.2.1)),()),()) else some (((wI ((0:Int) + x0.2.2.2.2.1)),()),()) else bif x1.2.2.1 then some (((wI ((0:Int) + x0.2.2.2.2.2.2.1)),()),()) else some (((0:Int),()),())
noncomputable def f166 (x0:Ta37) (x1:Ta3):Int :=
bif (!(f138 x0)) then (-1:Int) else bif (!x1.1) then bif (!x1.2.1) then bif x1.2.2.1 then (wI ((wI ((wI ((0:Int) + x0.2.2.2.1)) + x0.2.2.2.2.1)) + x0.2.2.2.2.2.2.1)) else (wI ((wI ((0:Int) + x0.2.2.2.1)) + x0.2.2.2.2.1)) else bif x1.2.2.1 then (wI ((wI ((0:Int) + x0.2.2.2.1)) + x0.2.2.2.2.2.2.1)) else (wI ((0:Int) + x0.2.2.2.1)) else bif (!x1.2.1) then bif x1.2.2.1 then (wI ((wI ((0:Int) + x0.2.2.2.2.1)) + x0.2.2.2.2.2.2.1)) else (wI ((0:Int) + x0.2.2.2.2.1)) else bif x1.2.2.1 then (wI ((0:Int) + x0.2.2.2.2.2.2.1)) else (0:Int)
theorem n166 (x0:Ta37) (x1:Ta3):g166 x0 x1 = some ((f166 x0 x1,()),()):=by simp only [g166,f166,pull1]
noncomputable def c166:Ctr:={ ins:=[.v Ty101,.v (.pair .bool (.pair .bool (.pair .bool .unit)))],out:=[(.int .i64)],F:=fun x=>some ((f166 x.1 x.2.1,()),()) }
theorem o166:Holds Try.prog 166 c166:=f0T t166 (fun x=>g166 x.1 x.2.1) Try.func166 (tc o138 tn) (fun x=>n166 x.1 x.2.1)
noncomputable def t144:Tbl:=[(166,[],c166)]
abbrev h144_L0:Shape:={ slots:=[(1,.bx 1 0),(3,.v (.int .i64)),(4,.v (.int .i64))],boxes:=[(1,.typ Ty101)] }
abbrev e144_L0:List (XT×Shape):=[(.exit 0,{ slots:=[(3,.v (.int .i64))],boxes:=[] })]
noncomputable def q144_L0 (t3:Int) (t4:Int) (b1:Ta37):Option (Ta72⊕(((Int×Unit)×Unit)⊕Empty)) :=
bif (decide (t4 < (8:Int))) then bif (decide ((f166 b1 (((Int.tmod t4 (2:Int)) == (1:Int)),(((Int.tmod (wI (Int.tdiv t4 (2:Int))) (2:Int)) == (1:Int)),(((wI (Int.tdiv t4 (4:Int))) == (1:Int)),())))) > t3)) then some (.inl (((),((f166 b1 (((Int.tmod t4 (2:Int)) == (1:Int)),(((Int.tmod (wI (Int.tdiv t4 (2:Int))) (2:Int)) == (1:Int)),(((wI (Int.tdiv t4 (4:Int))) == (1:Int)),())))),((wI (t4 + (1:Int))),()))),(b1,()))) else some (.inl (((),(t3,((wI (t4 + (1:Int))),()))),(b1,()))) else some (.inr (.inl ((t3,()),())))
noncomputable def s144_L0 (x:Ta72):=q144_L0 x.1.2.1 x.1.2.2.1 x.2.1
noncomputable def a144:Nat→Option LoopAnn:=fun c=>bif Nat.beq c 0 then some (.fix h144_L0 e144_L0 s144_L0) else none
noncomputable def g144 (x0:Ta37):Option ((Int×Unit)×Unit) :=
(fixO s144_L0 (((),((-1:Int),((0:Int),()))),(x0,()))).bind fun d2=>match d2 with | .inl y1=>some ((y1.1.1,()),()) | .inr e=>nomatch e
noncomputable def c144:Ctr:={ ins:=[.v Ty101],out:=[(.int .i64)],F:=fun x=>g144 x.1 }
noncomputable def l144:List (Nat×Code):=loopsIn (Try.f144.body.getD .skip) 0
theorem w144_L0:LW t144 a144 l144 0 0 h144_L0 e144_L0 s144_L0:=fun x=>by kernel_rfl
theorem o144:Holds Try.prog 144 c144:=fh t144 a144 Try.func144 [(0,lg l144 0)] ⟨fun x d h=>(w144_L0 x).trans h,trivial⟩ (tc o166 tn)
noncomputable def t115:Tbl:=[(138,[],c138),(143,[],c143),(144,[],c144)]
abbrev h115_L0:Shape:={ slots:=[(1,.bx 1 0),(3,.v (.int .i64)),(4,.v (.int .i64))],boxes:=[(1,.typ Ty101)] }
abbrev e115_L0:List (XT×Shape):=[(.exit 0,{ slots:=[(1,.bx 1 0),(3,.v (.int .i64))],boxes:=[(1,.typ Ty101)] })]
noncomputable def q115_L0 (t3:Int) (t4:Int) (b1:Ta37):Option (Ta72⊕(((Unit×(Int×Unit))×Ta49)⊕Empty)) :=
bif (decide (t4 < (33:Int))) then (g143 b1 t4).bind fun y1=>bif (decide (y1.1.1 > t3)) then (g143 b1 t4).bind fun y2=>some (.inl (((),(y2.1.1,((wI (t4 + (1:Int))),()))),(b1,()))) else some (.inl (((),(t3,((wI (t4 + (1:Int))),()))),(b1,()))) else some (.inr (.inl (((),(t3,())),(b1,()))))
noncomputable def s115_L0 (x:Ta72):=q115_L0 x.1.2.1 x.1.2.2.1 x.2.1
noncomputable def a115:Nat→Option LoopAnn:=fun c=>bif Nat.beq c 0 then some (.fix h115_L0 e115_L0 s115_L0) else none
noncomputable def g115 (x0:Ta37):Option ((Int×Unit)×Unit) :=
bif (!(f138 x0)) then some (((-1:Int),()),()) else (fixO s115_L0 (((),((0:Int),((0:Int),()))),(x0,()))).bind fun d5=>match d5 with | .inl y3=>(g144 y3.2.1).bind fun y4=>some (((wI ((wI (y3.1.2.1 + (wI ((2:Int) * y4.1.1)))) + y3.2.1.2.2.2.2.2.1)),()),()) | .inr e=>nomatch e
noncomputable def c115:Ctr:={ ins:=[.v Ty101],out:=[(.int .i64)],F:=fun x=>g115 x.1 }
noncomputable def l115:List (Nat×Code):=loopsIn (Try.f115.body.getD .skip) 0
theorem w115_L0:LW t115 a115 l115 0 0 h115_L0 e115_L0 s115_L0:=fun x=>by kernel_rfl
theorem o115:Holds Try.prog 115 c115:=fh t115 a115 Try.func115 [(0,lg l115 0)] ⟨fun x d h=>(w115_L0 x).trans h,trivial⟩ (tc o138 (tc o143 (tc o144 tn)))
noncomputable def t105:Tbl:=[(60,[],c60)]
noncomputable def g105 (x0:(Int×(Int×(Int×Unit)))):Option ((Bool×Unit)×Unit) :=
bif (x0.1 == (1:Int)) then bif (x0.2.2.1 == (4:Int)) then some (((f60 x0.2.1 (1:Int) (4:Int)),()),()) else bif (x0.2.2.1 == (8:Int)) then some (((f60 x0.2.1 (1:Int) (4:Int)),()),()) else bif (x0.2.2.1 == (16:Int)) then some (((f60 x0.2.1 (1:Int) (4:Int)),()),()) else bif (x0.2.2.1 == (32:Int)) then some (((f60 x0.2.1 (1:Int) (4:Int)),()),()) else some ((false,()),()) else bif (x0.1 == (2:Int)) then bif (x0.2.2.1 == (4:Int)) then some (((f60 x0.2.1 (1:Int) (4:Int)),()),()) else bif (x0.2.2.1 == (8:Int)) then some (((f60 x0.2.1 (1:Int) (4:Int)),()),()) else bif (x0.2.2.1 == (16:Int)) then some (((f60 x0.2.1 (1:Int) (4:Int)),()),()) else bif (x0.2.2.1 == (32:Int)) then some (((f60 x0.2.1 (1:Int) (4:Int)),()),()) else some ((false,()),()) else bif (x0.1 == (4:Int)) then bif (x0.2.2.1 == (4:Int)) then some (((f60 x0.2.1 (1:Int) (4:Int)),()),()) else bif (x0.2.2.1 == (8:Int)) then some (((f60 x0.2.1 (1:Int) (4:Int)),()),()) else bif (x0.2.2.1 == (16:Int)) then some (((f60 x0.2.1 (1:Int) (4:Int)),()),()) else bif (x0.2.2.1 == (32:Int)) then some (((f60 x0.2.1 (1:Int) (4:Int)),()),()) else some ((false,()),()) else bif (x0.1 == (8:Int)) then bif (x0.2.2.1 == (4:Int)) then some (((f60 x0.2.1 (1:Int) (4:Int)),()),()) else bif (x0.2.2.1 == (8:Int)) then some (((f60 x0.2.1 (1:Int) (4:Int)),()),()) else bif (x0.2.2.1 == (16:Int)) then some (((f60 x0.2.1 (1:Int) (4:Int)),()),()) else bif (x0.2.2.1 == (32:Int)) then some (((f60 x0.2.1 (1:Int) (4:Int)),()),()) else some ((false,()),()) else bif (x0.2.2.1 == (4:Int)) then bif (x0.1 == (16:Int)) then some (((f60 x0.2.1 (1:Int) (4:Int)),()),()) else some ((false,()),()) else bif (x0.2.2.1 == (8:Int)) then bif (x0.1 == (16:Int)) then some (((f60 x0.2.1 (1:Int) (4:Int)),()),()) else some ((false,()),()) else bif (x0.2.2.1 == (16:Int)) then bif (x0.1 == (16:Int)) then some (((f60 x0.2.1 (1:Int) (4:Int)),()),()) else some ((false,()),()) else bif (x0.1 == (16:Int)) then bif (x0.2.2.1 == (32:Int)) then some (((f60 x0.2.1 (1:Int) (4:Int)),()),()) else some ((false,()),()) else some ((false,()),())
noncomputable def f105 (x0:(Int×(Int×(Int×Unit)))):Bool :=
bif (x0.1 == (1:Int)) then bif (x0.2.2.1 == (4:Int)) then (f60 x0.2.1 (1:Int) (4:Int)) else bif (x0.2.2.1 == (8:Int)) then (f60 x0.2.1 (1:Int) (4:Int)) else bif (x0.2.2.1 == (16:Int)) then (f60 x0.2.1 (1:Int) (4:Int)) else bif (x0.2.2.1 == (32:Int)) then (f60 x0.2.1 (1:Int) (4:Int)) else false else bif (x0.1 == (2:Int)) then bif (x0.2.2.1 == (4:Int)) then (f60 x0.2.1 (1:Int) (4:Int)) else bif (x0.2.2.1 == (8:Int)) then (f60 x0.2.1 (1:Int) (4:Int)) else bif (x0.2.2.1 == (16:Int)) then (f60 x0.2.1 (1:Int) (4:Int)) else bif (x0.2.2.1 == (32:Int)) then (f60 x0.2.1 (1:Int) (4:Int)) else false else bif (x0.1 == (4:Int)) then bif (x0.2.2.1 == (4:Int)) then (f60 x0.2.1 (1:Int) (4:Int)) else bif (x0.2.2.1 == (8:Int)) then (f60 x0.2.1 (1:Int) (4:Int)) else bif (x0.2.2.1 == (16:Int)) then (f60 x0.2.1 (1:Int) (4:Int)) else bif (x0.2.2.1 == (32:Int)) then (f60 x0.2.1 (1:Int) (4:Int)) else false else bif (x0.1 == (8:Int)) then bif (x0.2.2.1 == (4:Int)) then (f60 x0.2.1 (1:Int) (4:Int)) else bif (x0.2.2.1 == (8:Int)) then (f60 x0.2.1 (1:Int) (4:Int)) else bif (x0.2.2.1 == (16:Int)) then (f60 x0.2.1 (1:Int) (4:Int)) else bif (x0.2.2.1 == (32:Int)) then (f60 x0.2.1 (1:Int) (4:Int)) else false else bif (x0.2.2.1 == (4:Int)) then bif (x0.1 == (16:Int)) then (f60 x0.2.1 (1:Int) (4:Int)) else false else bif (x0.2.2.1 == (8:Int)) then bif (x0.1 == (16:Int)) then (f60 x0.2.1 (1:Int) (4:Int)) else false else bif (x0.2.2.1 == (16:Int)) then bif (x0.1 == (16:Int)) then (f60 x0.2.1 (1:Int) (4:Int)) else false else bif (x0.1 == (16:Int)) then bif (x0.2.2.1 == (32:Int)) then (f60 x0.2.1 (1:Int) (4:Int)) else false else false
theorem n105 (x0:(Int×(Int×(Int×Unit)))):g105 x0 = some ((f105 x0,()),()):=by simp only [g105,f105,pull1]
noncomputable def c105:Ctr:={ ins:=[.v Ty61],out:=[.bool],F:=fun x=>some ((f105 x.1,()),()) }
theorem o105:Holds Try.prog 105 c105:=f0T t105 (fun x=>g105 x.1) Try.func105 (tc o60 tn) (fun x=>n105 x.1)
noncomputable def t141:Tbl:=[(60,[],c60)]
noncomputable def g141 (x0:Ta8):Option ((Bool×Unit)×Unit) :=
bif (!(f60 x0.2.1 (0:Int) (5:Int))) then some ((false,()),()) else bif (!(f60 x0.2.2.1 (0:Int) (5:Int))) then some ((false,()),()) else bif (x0.2.1 == x0.2.2.1) then some ((false,()),()) else bif (x0.1 == (0:Int)) then bif (x0.2.2.2.1 == (0:Int)) then some ((true,()),()) else bif (x0.1 == (1:Int)) then some (((f60 x0.2.2.2.1 (1:Int) (8:Int)),()),()) else some ((false,()),()) else bif (x0.1 == (1:Int)) then some (((f60 x0.2.2.2.1 (1:Int) (8:Int)),()),()) else some ((false,()),())
noncomputable def f141 (x0:Ta8):Bool :=
bif (!(f60 x0.2.1 (0:Int) (5:Int))) then false else bif (!(f60 x0.2.2.1 (0:Int) (5:Int))) then false else bif (x0.2.1 == x0.2.2.1) then false else bif (x0.1 == (0:Int)) then bif (x0.2.2.2.1 == (0:Int)) then true else bif (x0.1 == (1:Int)) then (f60 x0.2.2.2.1 (1:Int) (8:Int)) else false else bif (x0.1 == (1:Int)) then (f60 x0.2.2.2.1 (1:Int) (8:Int)) else false
theorem n141 (x0:Ta8):g141 x0 = some ((f141 x0,()),()):=by simp only [g141,f141,pull1]
noncomputable def c141:Ctr:={ ins:=[.v Ty77],out:=[.bool],F:=fun x=>some ((f141 x.1,()),()) }
theorem o141:Holds Try.prog 141 c141:=f0T t141 (fun x=>g141 x.1) Try.func141 (tc o60 tn) (fun x=>n141 x.1)
noncomputable def t116:Tbl:=[(138,[],c138),(105,[],c105),(141,[],c141)]
abbrev h116_L0:Shape:={ slots:=[(2,.v Ty80),(3,.bx 3 0),(7,.v (.int .i64)),(8,.v (.int .i64))],boxes:=[(3,.typ Ty101)] }
abbrev e116_L0:List (XT×Shape):=[(.ret,{ slots:=[(6,.v (.int .i64))],boxes:=[] }),(.exit 0,{ slots:=[(7,.v (.int .i64))],boxes:=[] })]
noncomputable def q116_L0 (t2:Ta14) (t7:Int) (t8:Int) (b3:Ta37):Option (((Ta14×(Unit×(Int×(Int×Unit))))×Ta49)⊕(((Int×Unit)×Unit)⊕(((Int×Unit)×Unit)⊕Empty))) :=
bif (decide (t8 < (t2.len:Int))) then bif (decide (0≤t8)&&decide (t8 < (t2.len:Int))) then bif (!(f141 (L.get t2 t8.toNat))) then some (.inr (.inl (((-1:Int),()),()))) else bif (decide (0≤t8)&&decide (t8 < (t2.len:Int))) then bif ((L.get t2 t8.toNat).1 == (0:Int)) then some (.inl ((t2,((),((wI (t7 + b3.1)),((wI (t8 + (1:Int))),())))),(b3,()))) else bif (decide (0≤t8)&&decide (t8 < (t2.len:Int))) then some (.inl ((t2,((),((wI (t7 + (wI (b3.1 * (L.get t2 t8.toNat).2.2.2.1)))),((wI (t8 + (1:Int))),())))),(b3,()))) else none else none else none else some (.inr (.inr (.inl ((t7,()),()))))
noncomputable def s116_L0 (x:((Ta14×(Unit×(Int×(Int×Unit))))×Ta49)):=q116_L0 x.1.1 x.1.2.2.1 x.1.2.2.2.1 x.2.1
noncomputable def a116:Nat→Option LoopAnn:=fun c=>bif Nat.beq c 0 then some (.fix h116_L0 e116_L0 s116_L0) else none
noncomputable def g116 (x0:Ta37) (x1:(Int×(Int×(Int×Unit)))) (x2:Ta14):Option ((Int×Unit)×Unit) :=
bif (!(f138 x0)) then some (((-1:Int),()),()) else bif (!(f105 x1)) then some (((-1:Int),()),()) else bif (decide ((x2.len:Int) > (8:Int))) then some (((-1:Int),()),()) else (fixO s116_L0 ((x2,((),((wI ((wI ((16:Int) * x0.1)) + (wI ((wI (x1.1 * x1.2.1)) * x0.2.2.2.2.2.2.1)))),((0:Int),())))),(x0,()))).bind fun d2=>match d2 with | .inl y1=>some ((y1.1.1,()),()) | .inr (.inl y1)=>some ((y1.1.1,()),()) | .inr (.inr e)=>nomatch e
noncomputable def c116:Ctr:={ ins:=[.v Ty101,.v Ty61,.v Ty80],out:=[(.int .i64)],F:=fun x=>g116 x.1 x.2.1 x.2.2.1 }
noncomputable def l116:List (Nat×Code):=loopsIn (Try.f116.body.getD .skip) 0
theorem w116_L0:LW t116 a116 l116 0 0 h116_L0 e116_L0 s116_L0:=fun x=>by kernel_rfl
theorem o116:Holds Try.prog 116 c116:=fh t116 a116 Try.func116 [(0,lg l116 0)] ⟨fun x d h=>(w116_L0 x).trans h,trivial⟩ (tc o138 (tc o105 (tc o141 tn)))
noncomputable def t131dw:Tbl:=[(84,[],c84d)]
noncomputable def g131dw (x0:Ta6) (x1:(L ByteArray)):Option ((ByteArray×Unit)×(Ta6×((L ByteArray)×Unit))) :=
(g84d x0 (x1.len:Int)).bind fun y1=>bif (decide (0≤y1.1.1)&&decide (y1.1.1 < (x1.len:Int))) then some (((L.get x1 y1.1.1.toNat),()),(y1.2.1,x1,())) else none
noncomputable def c131dw:Ctr:={ ins:=[.pd Ty65,.ow (.sl .str)],out:=[.str],F:=fun x=>g131dw x.1 x.2.1 }
theorem o131dw:Holds Try.prog 131 c131dw:=f0 t131dw Try.func131 (tc o84d tn)
noncomputable def t88rd:Tbl:=[(87,[],c87dw),(84,[],c84d),(113,[],c113d),(114,[],c114d),(115,[],c115),(116,[],c116),(86,[],c86d)]
abbrev h88rd_L0:Shape:={ slots:=[(0,.bx 100000000 0),(1,.v (.int .i64)),(4,.bx 4 0),(5,.bx 5 0),(6,.v (.int .i64)),(7,.v (.int .i64))],boxes:=[(100000000,.typ Ty65),(4,.cells [.v (.int .i64),.v (.int .i64),.v (.int .i64),.v (.int .i64),.v (.int .i64),.v (.int .i64),.v (.int .i64),.v (.int .i64),.v (.int .i64),.v (.int .i64),.v (.int .i64),.v (.int .i64),.v (.int .i64),.v (.int .i64),.v (.int .i64),.row Ty107 60271,.row (.int .i64) 60272,.row Ty77 60273,.row Ty61 60274]),(5,.cells [.v (.int .i64),.v (.int .i64),.v (.int .i64),.v (.int .i64),.v (.int .i64),.v (.int .i64),.v (.int .i64),.v (.int .i64),.v (.int .i64),.v (.int .i64),.v (.int .i64),.v (.int .i64),.v (.int .i64),.v (.int .i64),.v (.int .i64),.row Ty107 60335,.row (.int .i64) 60336,.row Ty77 60337,.row Ty61 60338])] }
abbrev e88rd_L0:List (XT×Shape):=[(.exit 0,{ slots:=[(0,.bx 100000000 0),(1,.v (.int .i64)),(4,.bx 4 0),(5,.bx 5 0),(6,.v (.int .i64))],boxes:=[(100000000,.typ Ty65),(4,.cells [.v (.int .i64),.v (.int .i64),.v (.int .i64),.v (.int .i64),.v (.int .i64),.v (.int .i64),.v (.int .i64),.v (.int .i64),.v (.int .i64),.v (.int .i64),.v (.int .i64),.v (.int .i64),.v (.int .i64),.v (.int .i64),.v (.int .i64),.ms 60271,.ms 60272,.ms 60273,.ms 60274]),(5,.cells [.v (.int .i64),.v (.int .i64),.v (.int .i64),.v (.int .i64),.v (.int .i64),.v (.int .i64),.v (.int .i64),.v (.int .i64),.v (.int .i64),.v (.int .i64),.v (.int .i64),.v (.int .i64),.v (.int .i64),.v (.int .i64),.v (.int .i64),.ms 60335,.ms 60336,.ms 60337,.ms 60338]),(60271,.row Ty107),(60272,.row (.int .i64)),(60273,.row Ty77),(60274,.row Ty61),(60335,.row Ty107),(60336,.row (.int .i64)),(60337,.row Ty77),(60338,.row Ty61)] })]
noncomputable def q88rd_L0 (t1:Int) (t6:Int) (t7:Int) (b100000000:Ta6) (b4_0:Int) (b4_1:Int) (b4_2:Int) (b4_3:Int) (b4_4:Int) (b4_5:Int) (b4_6:Int) (b4_7:Int) (b4_8:Int) (b4_9:Int) (b4_10:Int) (b4_11:Int) (b4_12:Int) (b4_13:Int) (b4_14:Int) (b4_15:Ta68) (b4_16:(L Int)) (b4_17:Ta14) (b4_18:Ta7) (b5_0:Int) (b5_1:Int) (b5_2:Int) (b5_3:Int) (b5_4:Int) (b5_5:Int) (b5_6:Int) (b5_7:Int) (b5_8:Int) (b5_9:Int) (b5_10:Int) (b5_11:Int) (b5_12:Int) (b5_13:Int) (b5_14:Int) (b5_15:Ta68) (b5_16:(L Int)) (b5_17:Ta14) (b5_18:Ta7):Option ((Ta30×(Ta6×(Ta130×(Ta130×Unit))))⊕(Ta147⊕Empty)) :=
bif (decide (t7 < t1)) then bif (decide (0≤t7)&&decide (t7 < (6:Int))) then (g113d b100000000).bind fun y13=>(g84d y13.2.1 (2:Int)).bind fun y14=>(g84d y14.2.1 (4:Int)).bind fun y15=>(g84d y15.2.1 (2:Int)).bind fun y16=>(g84d y16.2.1 (3:Int)).bind fun y17=>bif (decide (b5_15.len + (L.of (Ty.zero Ty107) [((L.get (L.of (Ty.zero .str) [(⟨#[97,108,112,104,97]⟩:ByteArray),(⟨#[98,101,116,97]⟩:ByteArray),(⟨#[103,97,109,109,97]⟩:ByteArray),(⟨#[100,101,108,116,97]⟩:ByteArray),(⟨#[101,112,115]⟩:ByteArray),(⟨#[122,101,116,97]⟩:ByteArray)]) t7.toNat),((wI (t6 + (wI ((4:Int) * y16.1.1)))),(y13.1.1,((L.of (Ty.zero Ty61) [(t6,((128:Int),((5:Int),()))),((wI ((wI (t6 + (128:Int))) + (wI ((4:Int) * y14.1.1)))),((wI ((32:Int) + (wI ((4:Int) * y15.1.1)))),((3:Int),())))]),()))))]).len≤most)) then some (.inl (((),(t1,((),((),((wI ((wI ((wI ((wI (t6 + (128:Int))) + (wI ((4:Int) * y14.1.1)))) + (wI ((32:Int) + (wI ((4:Int) * y15.1.1)))))) + (wI ((4:Int) * y17.1.1)))),((wI (t7 + (1:Int))),())))))),(y17.2.1,((b4_0,(b4_1,(b4_2,(b4_3,(b4_4,(b4_5,(b4_6,(b4_7,(b4_8,(b4_9,(b4_10,(b4_11,(b4_12,(b4_13,(b4_14,(b4_15,(b4_16,(b4_17,(b4_18,()))))))))))))))))))),((b5_0,(b5_1,(b5_2,(b5_3,(b5_4,(b5_5,(b5_6,(b5_7,(b5_8,(b5_9,(b5_10,(b5_11,(b5_12,(b5_13,(b5_14,((L.app b5_15 (L.of (Ty.zero Ty107) [((L.get (L.of (Ty.zero .str) [(⟨#[97,108,112,104,97]⟩:ByteArray),(⟨#[98,101,116,97]⟩:ByteArray),(⟨#[103,97,109,109,97]⟩:ByteArray),(⟨#[100,101,108,116,97]⟩:ByteArray),(⟨#[101,112,115]⟩:ByteArray),(⟨#[122,101,116,97]⟩:ByteArray)]) t7.toNat),((wI (t6 + (wI ((4:Int) * y16.1.1)))),(y13.1.1,((L.of (Ty.zero Ty61) [(t6,((128:Int),((5:Int),()))),((wI ((wI (t6 + (128:Int))) + (wI ((4:Int) * y14.1.1)))),((wI ((32:Int) + (wI ((4:Int) * y15.1.1)))),((3:Int),())))]),()))))])),(b5_16,(b5_17,(b5_18,()))))))))))))))))))),()))))) else none else none else some (.inr (.inl (((),(t1,((),((),(t6,()))))),(b100000000,((b4_0,(b4_1,(b4_2,(b4_3,(b4_4,(b4_5,(b4_6,(b4_7,(b4_8,(b4_9,(b4_10,(b4_11,(b4_12,(b4_13,(b4_14,((),((),((),((),()))))))))))))))))))),((b5_0,(b5_1,(b5_2,(b5_3,(b5_4,(b5_5,(b5_6,(b5_7,(b5_8,(b5_9,(b5_10,(b5_11,(b5_12,(b5_13,(b5_14,((),((),((),((),()))))))))))))))))))),(b4_15,(b4_16,(b4_17,(b4_18,(b5_15,(b5_16,(b5_17,(b5_18,()))))))))))))))
noncomputable def s88rd_L0 (x:(Ta30×(Ta6×(Ta130×(Ta130×Unit))))):=q88rd_L0 x.1.2.1 x.1.2.2.2.2.1 x.1.2.2.2.2.2.1 x.2.1 x.2.2.1.1 x.2.2.1.2.1 x.2.2.1.2.2.1 x.2.2.1.2.2.2.1 x.2.2.1.2.2.2.2.1 x.2.2.1.2.2.2.2.2.1 x.2.2.1.2.2.2.2.2.2.1 x.2.2.1.2.2.2.2.2.2.2.1 x.2.2.1.2.2.2.2.2.2.2.2.1 x.2.2.1.2.2.2.2.2.2.2.2.2.1 x.2.2.1.2.2.2.2.2.2.2.2.2.2.1 x.2.2.1.2.2.2.2.2.2.2.2.2.2.2.1 x.2.2.1.2.2.2.2.2.2.2.2.2.2.2.2.1 x.2.2.1.2.2.2.2.2.2.2.2.2.2.2.2.2.1 x.2.2.1.2.2.2.2.2.2.2.2.2.2.2.2.2.2.1 x.2.2.1.2.2.2.2.2.2.2.2.2.2.2.2.2.2.2.1 x.2.2.1.2.2.2.2.2.2.2.2.2.2.2.2.2.2.2.2.1 x.2.2.1.2.2.2.2.2.2.2.2.2.2.2.2.2.2.2.2.2.1 x.2.2.1.2.2.2.2.2.2.2.2.2.2.2.2.2.2.2.2.2.2.1 x.2.2.2.1.1 x.2.2.2.1.2.1 x.2.2.2.1.2.2.1 x.2.2.2.1.2.2.2.1 x.2.2.2.1.2.2.2.2.1 x.2.2.2.1.2.2.2.2.2.1 x.2.2.2.1.2.2.2.2.2.2.1 x.2.2.2.1.2.2.2.2.2.2.2.1 x.2.2.2.1.2.2.2.2.2.2.2.2.1 x.2.2.2.1.2.2.2.2.2.2.2.2.2.1 x.2.2.2.1.2.2.2.2.2.2.2.2.2.2.1 x.2.2.2.1.2.2.2.2.2.2.2.2.2.2.2.1 x.2.2.2.1.2.2.2.2.2.2.2.2.2.2.2.2.1 x.2.2.2.1.2.2.2.2.2.2.2.2.2.2.2.2.2.1 x.2.2.2.1.2.2.2.2.2.2.2.2.2.2.2.2.2.2.1 x.2.2.2.1.2.2.2.2.2.2.2.2.2.2.2.2.2.2.2.1 x.2.2.2.1.2.2.2.2.2.2.2.2.2.2.2.2.2.2.2.2.1 x.2.2.2.1.2.2.2.2.2.2.2.2.2.2.2.2.2.2.2.2.2.1 x.2.2.2.1.2.2.2.2.2.2.2.2.2.2.2.2.2.2.2.2.2.2.1
abbrev h88rd_L2:Shape:={ slots:=[(0,.bx 100000000 0),(1,.v (.int .i64)),(4,.bx 4 0),(5,.bx 5 0),(11,.v (.int .i64))],boxes:=[(100000000,.typ Ty65),(4,.cells [.v (.int .i64),.v (.int .i64),.v (.int .i64),.v (.int .i64),.v (.int .i64),.v (.int .i64),.v (.int .i64),.v (.int .i64),.v (.int .i64),.v (.int .i64),.v (.int .i64),.v (.int .i64),.v (.int .i64),.v (.int .i64),.v (.int .i64),.ms 60271,.ms 60272,.ms 60273,.ms 60274]),(5,.cells [.v (.int .i64),.v (.int .i64),.v (.int .i64),.v (.int .i64),.v (.int .i64),.v (.int .i64),.v (.int .i64),.v (.int .i64),.v (.int .i64),.v (.int .i64),.v (.int .i64),.v (.int .i64),.v (.int .i64),.v (.int .i64),.v (.int .i64),.ms 60335,.ms 60336,.ms 60337,.ms 60338]),(60271,.row Ty107),(60272,.row (.int .i64)),(60273,.row Ty77),(60274,.row Ty61),(60335,.row Ty107),(60336,.row (.int .i64)),(60337,.row Ty77),(60338,.row Ty61)] }
abbrev e88rd_L2:List (XT×Shape):=[(.exit 2,{ slots:=[(0,.bx 100000000 0),(1,.v (.int .i64)),(4,.bx 4 0),(5,.bx 5 0)],boxes:=[(100000000,.typ Ty65),(4,.cells [.v (.int .i64),.v (.int .i64),.v (.int .i64),.v (.int .i64),.v (.int .i64),.v (.int .i64),.v (.int .i64),.v (.int .i64),.v (.int .i64),.v (.int .i64),.v (.int .i64),.v (.int .i64),.v (.int .i64),.v (.int .i64),.v (.int .i64),.ms 60271,.ms 60272,.ms 60273,.ms 60274]),(5,.cells [.v (.int .i64),.v (.int .i64),.v (.int .i64),.v (.int .i64),.v (.int .i64),.v (.int .i64),.v (.int .i64),.v (.int .i64),.v (.int .i64),.v (.int .i64),.v (.int .i64),.v (.int .i64),.v (.int .i64),.v (.int .i64),.v (.int .i64),.ms 60335,.ms 60336,.ms 60337,.ms 60338]),(60271,.row Ty107),(60272,.row (.int .i64)),(60273,.row Ty77),(60274,.row Ty61),(60335,.row Ty107),(60336,.row (.int .i64)),(60337,.row Ty77),(60338,.row Ty61)] })]
noncomputable def q88rd_L2 (t1:Int) (t11:Int) (b100000000:Ta6) (b4_0:Int) (b4_1:Int) (b4_2:Int) (b4_3:Int) (b4_4:Int) (b4_5:Int) (b4_6:Int) (b4_7:Int) (b4_8:Int) (b4_9:Int) (b4_10:Int) (b4_11:Int) (b4_12:Int) (b4_13:Int) (b4_14:Int) (b5_0:Int) (b5_1:Int) (b5_2:Int) (b5_3:Int) (b5_4:Int) (b5_5:Int) (b5_6:Int) (b5_7:Int) (b5_8:Int) (b5_9:Int) (b5_10:Int) (b5_11:Int) (b5_12:Int) (b5_13:Int) (b5_14:Int) (r60271:Ta68) (r60272:(L Int)) (r60273:Ta14) (r60274:Ta7) (r60335:Ta68) (r60336:(L Int)) (r60337:Ta14) (r60338:Ta7):Option (Ta147⊕(((Unit×Ta1)×Ta145)⊕Empty)) :=
(g84d b100000000 (4:Int)).bind fun y19=>bif (decide (t11 < y19.1.1)) then (g84d y19.2.1 t1).bind fun y20=>bif (decide (r60336.len + (L.of (Ty.zero (.int .i64)) [y20.1.1]).len≤most)) then some (.inl (((),(t1,((),((),((wI (t11 + (1:Int))),()))))),(y20.2.1,((b4_0,(b4_1,(b4_2,(b4_3,(b4_4,(b4_5,(b4_6,(b4_7,(b4_8,(b4_9,(b4_10,(b4_11,(b4_12,(b4_13,(b4_14,((),((),((),((),()))))))))))))))))))),((b5_0,(b5_1,(b5_2,(b5_3,(b5_4,(b5_5,(b5_6,(b5_7,(b5_8,(b5_9,(b5_10,(b5_11,(b5_12,(b5_13,(b5_14,((),((),((),((),()))))))))))))))))))),(r60271,(r60272,(r60273,(r60274,(r60335,((L.app r60336 (L.of (Ty.zero (.int .i64)) [y20.1.1])),(r60337,(r60338,()))))))))))))) else none else some (.inr (.inl (((),(t1,((),((),())))),(y19.2.1,((b4_0,(b4_1,(b4_2,(b4_3,(b4_4,(b4_5,(b4_6,(b4_7,(b4_8,(b4_9,(b4_10,(b4_11,(b4_12,(b4_13,(b4_14,((),((),((),((),()))))))))))))))))))),((b5_0,(b5_1,(b5_2,(b5_3,(b5_4,(b5_5,(b5_6,(b5_7,(b5_8,(b5_9,(b5_10,(b5_11,(b5_12,(b5_13,(b5_14,((),((),((),((),()))))))))))))))))))),(r60271,(r60272,(r60273,(r60274,(r60335,(r60336,(r60337,(r60338,()))))))))))))))
noncomputable def s88rd_L2 (x:Ta147):=q88rd_L2 x.1.2.1 x.1.2.2.2.2.1 x.2.1 x.2.2.1.1 x.2.2.1.2.1 x.2.2.1.2.2.1 x.2.2.1.2.2.2.1 x.2.2.1.2.2.2.2.1 x.2.2.1.2.2.2.2.2.1 x.2.2.1.2.2.2.2.2.2.1 x.2.2.1.2.2.2.2.2.2.2.1 x.2.2.1.2.2.2.2.2.2.2.2.1 x.2.2.1.2.2.2.2.2.2.2.2.2.1 x.2.2.1.2.2.2.2.2.2.2.2.2.2.1 x.2.2.1.2.2.2.2.2.2.2.2.2.2.2.1 x.2.2.1.2.2.2.2.2.2.2.2.2.2.2.2.1 x.2.2.1.2.2.2.2.2.2.2.2.2.2.2.2.2.1 x.2.2.1.2.2.2.2.2.2.2.2.2.2.2.2.2.2.1 x.2.2.2.1.1 x.2.2.2.1.2.1 x.2.2.2.1.2.2.1 x.2.2.2.1.2.2.2.1 x.2.2.2.1.2.2.2.2.1 x.2.2.2.1.2.2.2.2.2.1 x.2.2.2.1.2.2.2.2.2.2.1 x.2.2.2.1.2.2.2.2.2.2.2.1 x.2.2.2.1.2.2.2.2.2.2.2.2.1 x.2.2.2.1.2.2.2.2.2.2.2.2.2.1 x.2.2.2.1.2.2.2.2.2.2.2.2.2.2.1 x.2.2.2.1.2.2.2.2.2.2.2.2.2.2.2.1 x.2.2.2.1.2.2.2.2.2.2.2.2.2.2.2.2.1 x.2.2.2.1.2.2.2.2.2.2.2.2.2.2.2.2.2.1 x.2.2.2.1.2.2.2.2.2.2.2.2.2.2.2.2.2.2.1 x.2.2.2.2.1 x.2.2.2.2.2.1 x.2.2.2.2.2.2.1 x.2.2.2.2.2.2.2.1 x.2.2.2.2.2.2.2.2.1 x.2.2.2.2.2.2.2.2.2.1 x.2.2.2.2.2.2.2.2.2.2.1 x.2.2.2.2.2.2.2.2.2.2.2.1
abbrev h88rd_L4:Shape:={ slots:=[(0,.bx 100000000 0),(1,.v (.int .i64)),(4,.bx 4 0),(5,.bx 5 0),(12,.v (.int .i64))],boxes:=[(100000000,.typ Ty65),(4,.cells [.v (.int .i64),.v (.int .i64),.v (.int .i64),.v (.int .i64),.v (.int .i64),.v (.int .i64),.v (.int .i64),.v (.int .i64),.v (.int .i64),.v (.int .i64),.v (.int .i64),.v (.int .i64),.v (.int .i64),.v (.int .i64),.v (.int .i64),.ms 60271,.ms 60272,.ms 60273,.ms 60274]),(5,.cells [.v (.int .i64),.v (.int .i64),.v (.int .i64),.v (.int .i64),.v (.int .i64),.v (.int .i64),.v (.int .i64),.v (.int .i64),.v (.int .i64),.v (.int .i64),.v (.int .i64),.v (.int .i64),.v (.int .i64),.v (.int .i64),.v (.int .i64),.ms 60335,.ms 60336,.ms 60337,.ms 60338]),(60271,.row Ty107),(60272,.row (.int .i64)),(60273,.row Ty77),(60274,.row Ty61),(60335,.row Ty107),(60336,.row (.int .i64)),(60337,.row Ty77),(60338,.row Ty61)] }
abbrev e88rd_L4:List (XT×Shape):=[(.exit 4,{ slots:=[(0,.bx 100000000 0),(1,.v (.int .i64)),(4,.bx 4 0),(5,.bx 5 0)],boxes:=[(100000000,.typ Ty65),(4,.cells [.v (.int .i64),.v (.int .i64),.v (.int .i64),.v (.int .i64),.v (.int .i64),.v (.int .i64),.v (.int .i64),.v (.int .i64),.v (.int .i64),.v (.int .i64),.v (.int .i64),.v (.int .i64),.v (.int .i64),.v (.int .i64),.v (.int .i64),.ms 60271,.ms 60272,.ms 60273,.ms 60274]),(5,.cells [.v (.int .i64),.v (.int .i64),.v (.int .i64),.v (.int .i64),.v (.int .i64),.v (.int .i64),.v (.int .i64),.v (.int .i64),.v (.int .i64),.v (.int .i64),.v (.int .i64),.v (.int .i64),.v (.int .i64),.v (.int .i64),.v (.int .i64),.ms 60335,.ms 60336,.ms 60337,.ms 60338]),(60271,.row Ty107),(60272,.row (.int .i64)),(60273,.row Ty77),(60274,.row Ty61),(60335,.row Ty107),(60336,.row (.int .i64)),(60337,.row Ty77),(60338,.row Ty61)] })]
noncomputable def q88rd_L4 (t1:Int) (t12:Int) (b100000000:Ta6) (b4_0:Int) (b4_1:Int) (b4_2:Int) (b4_3:Int) (b4_4:Int) (b4_5:Int) (b4_6:Int) (b4_7:Int) (b4_8:Int) (b4_9:Int) (b4_10:Int) (b4_11:Int) (b4_12:Int) (b4_13:Int) (b4_14:Int) (b5_0:Int) (b5_1:Int) (b5_2:Int) (b5_3:Int) (b5_4:Int) (b5_5:Int) (b5_6:Int) (b5_7:Int) (b5_8:Int) (b5_9:Int) (b5_10:Int) (b5_11:Int) (b5_12:Int) (b5_13:Int) (b5_14:Int) (r60271:Ta68) (r60272:(L Int)) (r60273:Ta14) (r60274:Ta7) (r60335:Ta68) (r60336:(L Int)) (r60337:Ta14) (r60338:Ta7):Option (Ta147⊕(((Unit×Ta1)×Ta145)⊕Empty)) :=
(g84d b100000000 (5:Int)).bind fun y22=>bif (decide (t12 < y22.1.1)) then (g114d y22.2.1 t1).bind fun y23=>bif (decide (r60337.len + (L.of (Ty.zero Ty77) [y23.1.1]).len≤most)) then some (.inl (((),(t1,((),((),((wI (t12 + (1:Int))),()))))),(y23.2.1,((b4_0,(b4_1,(b4_2,(b4_3,(b4_4,(b4_5,(b4_6,(b4_7,(b4_8,(b4_9,(b4_10,(b4_11,(b4_12,(b4_13,(b4_14,((),((),((),((),()))))))))))))))))))),((b5_0,(b5_1,(b5_2,(b5_3,(b5_4,(b5_5,(b5_6,(b5_7,(b5_8,(b5_9,(b5_10,(b5_11,(b5_12,(b5_13,(b5_14,((),((),((),((),()))))))))))))))))))),(r60271,(r60272,(r60273,(r60274,(r60335,(r60336,((L.app r60337 (L.of (Ty.zero Ty77) [y23.1.1])),(r60338,()))))))))))))) else none else some (.inr (.inl (((),(t1,((),((),())))),(y22.2.1,((b4_0,(b4_1,(b4_2,(b4_3,(b4_4,(b4_5,(b4_6,(b4_7,(b4_8,(b4_9,(b4_10,(b4_11,(b4_12,(b4_13,(b4_14,((),((),((),((),()))))))))))))))))))),((b5_0,(b5_1,(b5_2,(b5_3,(b5_4,(b5_5,(b5_6,(b5_7,(b5_8,(b5_9,(b5_10,(b5_11,(b5_12,(b5_13,(b5_14,((),((),((),((),()))))))))))))))))))),(r60271,(r60272,(r60273,(r60274,(r60335,(r60336,(r60337,(r60338,()))))))))))))))
noncomputable def s88rd_L4 (x:Ta147):=q88rd_L4 x.1.2.1 x.1.2.2.2.2.1 x.2.1 x.2.2.1.1 x.2.2.1.2.1 x.2.2.1.2.2.1 x.2.2.1.2.2.2.1 x.2.2.1.2.2.2.2.1 x.2.2.1.2.2.2.2.2.1 x.2.2.1.2.2.2.2.2.2.1 x.2.2.1.2.2.2.2.2.2.2.1 x.2.2.1.2.2.2.2.2.2.2.2.1 x.2.2.1.2.2.2.2.2.2.2.2.2.1 x.2.2.1.2.2.2.2.2.2.2.2.2.2.1 x.2.2.1.2.2.2.2.2.2.2.2.2.2.2.1 x.2.2.1.2.2.2.2.2.2.2.2.2.2.2.2.1 x.2.2.1.2.2.2.2.2.2.2.2.2.2.2.2.2.1 x.2.2.1.2.2.2.2.2.2.2.2.2.2.2.2.2.2.1 x.2.2.2.1.1 x.2.2.2.1.2.1 x.2.2.2.1.2.2.1 x.2.2.2.1.2.2.2.1 x.2.2.2.1.2.2.2.2.1 x.2.2.2.1.2.2.2.2.2.1 x.2.2.2.1.2.2.2.2.2.2.1 x.2.2.2.1.2.2.2.2.2.2.2.1 x.2.2.2.1.2.2.2.2.2.2.2.2.1 x.2.2.2.1.2.2.2.2.2.2.2.2.2.1 x.2.2.2.1.2.2.2.2.2.2.2.2.2.2.1 x.2.2.2.1.2.2.2.2.2.2.2.2.2.2.2.1 x.2.2.2.1.2.2.2.2.2.2.2.2.2.2.2.2.1 x.2.2.2.1.2.2.2.2.2.2.2.2.2.2.2.2.2.1 x.2.2.2.1.2.2.2.2.2.2.2.2.2.2.2.2.2.2.1 x.2.2.2.2.1 x.2.2.2.2.2.1 x.2.2.2.2.2.2.1 x.2.2.2.2.2.2.2.1 x.2.2.2.2.2.2.2.2.1 x.2.2.2.2.2.2.2.2.2.1 x.2.2.2.2.2.2.2.2.2.2.1 x.2.2.2.2.2.2.2.2.2.2.2.1
abbrev h88rd_L6:Shape:={ slots:=[(0,.bx 100000000 0),(1,.v (.int .i64)),(4,.bx 4 0),(5,.bx 5 0),(13,.v (.int .i64)),(14,.v (.int .i64))],boxes:=[(100000000,.typ Ty65),(4,.cells [.v (.int .i64),.v (.int .i64),.v (.int .i64),.v (.int .i64),.v (.int .i64),.v (.int .i64),.v (.int .i64),.v (.int .i64),.v (.int .i64),.v (.int .i64),.v (.int .i64),.v (.int .i64),.v (.int .i64),.v (.int .i64),.v (.int .i64),.ms 60271,.ms 60272,.ms 60273,.ms 60274]),(5,.cells [.v (.int .i64),.v (.int .i64),.v (.int .i64),.v (.int .i64),.v (.int .i64),.v (.int .i64),.v (.int .i64),.v (.int .i64),.v (.int .i64),.v (.int .i64),.v (.int .i64),.v (.int .i64),.v (.int .i64),.v (.int .i64),.v (.int .i64),.ms 60335,.ms 60336,.ms 60337,.ms 60338]),(60271,.row Ty107),(60272,.row (.int .i64)),(60273,.row Ty77),(60274,.row Ty61),(60335,.row Ty107),(60336,.row (.int .i64)),(60337,.row Ty77),(60338,.row Ty61)] }
abbrev e88rd_L6:List (XT×Shape):=[(.exit 6,{ slots:=[(0,.bx 100000000 0),(4,.bx 4 0),(5,.bx 5 0)],boxes:=[(100000000,.typ Ty65),(4,.cells [.v (.int .i64),.v (.int .i64),.v (.int .i64),.v (.int .i64),.v (.int .i64),.v (.int .i64),.v (.int .i64),.v (.int .i64),.v (.int .i64),.v (.int .i64),.v (.int .i64),.v (.int .i64),.v (.int .i64),.v (.int .i64),.v (.int .i64),.ms 60271,.ms 60272,.ms 60273,.ms 60274]),(5,.cells [.v (.int .i64),.v (.int .i64),.v (.int .i64),.v (.int .i64),.v (.int .i64),.v (.int .i64),.v (.int .i64),.v (.int .i64),.v (.int .i64),.v (.int .i64),.v (.int .i64),.v (.int .i64),.v (.int .i64),.v (.int .i64),.v (.int .i64),.ms 60335,.ms 60336,.ms 60337,.ms 60338]),(60271,.row Ty107),(60272,.row (.int .i64)),(60273,.row Ty77),(60274,.row Ty61),(60335,.row Ty107),(60336,.row (.int .i64)),(60337,.row Ty77),(60338,.row Ty61)] })]
noncomputable def q88rd_L6 (t1:Int) (t13:Int) (t14:Int) (b100000000:Ta6) (b4_0:Int) (b4_1:Int) (b4_2:Int) (b4_3:Int) (b4_4:Int) (b4_5:Int) (b4_6:Int) (b4_7:Int) (b4_8:Int) (b4_9:Int) (b4_10:Int) (b4_11:Int) (b4_12:Int) (b4_13:Int) (b4_14:Int) (b5_0:Int) (b5_1:Int) (b5_2:Int) (b5_3:Int) (b5_4:Int) (b5_5:Int) (b5_6:Int) (b5_7:Int) (b5_8:Int) (b5_9:Int) (b5_10:Int) (b5_11:Int) (b5_12:Int) (b5_13:Int) (b5_14:Int) (r60271:Ta68) (r60272:(L Int)) (r60273:Ta14) (r60274:Ta7) (r60335:Ta68) (r60336:(L Int)) (r60337:Ta14) (r60338:Ta7):Option ((Ta30×Ta145)⊕((Ta4×Ta145)⊕Empty)) :=
(g84d b100000000 (3:Int)).bind fun y30=>bif (decide (t14 < (wI (t1 + y30.1.1)))) then bif (!decide (t1 = 0)) then (g84d y30.2.1 (90:Int)).bind fun y31=>(g86d y31.2.1 (5:Int)).bind fun y32=>bif y32.1.1 then (g84d y32.2.1 t1).bind fun y33=>bif (decide (r60338.len + (L.of (Ty.zero Ty61) [(y33.1.1,(t13,((wI ((wI ((wI (b5_12 + b5_13)) + (1:Int))) + y31.1.1)),())))]).len≤most)) then (g87dw y33.2.1 (L.of (Ty.zero (.int .i64)) [(0:Int),(0:Int),(3:Int)])).bind fun y34=>some (.inl (((),(t1,((),((),((wI ((wI (t13 + (wI ((wI ((wI (b5_12 + b5_13)) + (1:Int))) + y31.1.1)))) + y34.1.1)),((wI (t14 + (1:Int))),())))))),(y34.2.1,((b4_0,(b4_1,(b4_2,(b4_3,(b4_4,(b4_5,(b4_6,(b4_7,(b4_8,(b4_9,(b4_10,(b4_11,(b4_12,(b4_13,(b4_14,((),((),((),((),()))))))))))))))))))),((b5_0,(b5_1,(b5_2,(b5_3,(b5_4,(b5_5,(b5_6,(b5_7,(b5_8,(b5_9,(b5_10,(b5_11,(b5_12,(b5_13,(b5_14,((),((),((),((),()))))))))))))))))))),(r60271,(r60272,(r60273,(r60274,(r60335,(r60336,(r60337,((L.app r60338 (L.of (Ty.zero Ty61) [(y33.1.1,(t13,((wI ((wI ((wI (b5_12 + b5_13)) + (1:Int))) + y31.1.1)),())))])),()))))))))))))) else none else bif (decide (r60338.len + (L.of (Ty.zero Ty61) [((Int.tmod t14 t1),(t13,((wI ((wI ((wI (b5_12 + b5_13)) + (1:Int))) + y31.1.1)),())))]).len≤most)) then (g87dw y32.2.1 (L.of (Ty.zero (.int .i64)) [(0:Int),(0:Int),(3:Int)])).bind fun y35=>some (.inl (((),(t1,((),((),((wI ((wI (t13 + (wI ((wI ((wI (b5_12 + b5_13)) + (1:Int))) + y31.1.1)))) + y35.1.1)),((wI (t14 + (1:Int))),())))))),(y35.2.1,((b4_0,(b4_1,(b4_2,(b4_3,(b4_4,(b4_5,(b4_6,(b4_7,(b4_8,(b4_9,(b4_10,(b4_11,(b4_12,(b4_13,(b4_14,((),((),((),((),()))))))))))))))))))),((b5_0,(b5_1,(b5_2,(b5_3,(b5_4,(b5_5,(b5_6,(b5_7,(b5_8,(b5_9,(b5_10,(b5_11,(b5_12,(b5_13,(b5_14,((),((),((),((),()))))))))))))))))))),(r60271,(r60272,(r60273,(r60274,(r60335,(r60336,(r60337,((L.app r60338 (L.of (Ty.zero Ty61) [((Int.tmod t14 t1),(t13,((wI ((wI ((wI (b5_12 + b5_13)) + (1:Int))) + y31.1.1)),())))])),()))))))))))))) else none else none else some (.inr (.inl (((),((),((),()))),(y30.2.1,((b4_0,(b4_1,(b4_2,(b4_3,(b4_4,(b4_5,(b4_6,(b4_7,(b4_8,(b4_9,(b4_10,(b4_11,(b4_12,(b4_13,(b4_14,((),((),((),((),()))))))))))))))))))),((b5_0,(b5_1,(b5_2,(b5_3,(b5_4,(b5_5,(b5_6,(b5_7,(b5_8,(b5_9,(b5_10,(b5_11,(b5_12,(b5_13,(b5_14,((),((),((),((),()))))))))))))))))))),(r60271,(r60272,(r60273,(r60274,(r60335,(r60336,(r60337,(r60338,()))))))))))))))
noncomputable def s88rd_L6 (x:(Ta30×Ta145)):=q88rd_L6 x.1.2.1 x.1.2.2.2.2.1 x.1.2.2.2.2.2.1 x.2.1 x.2.2.1.1 x.2.2.1.2.1 x.2.2.1.2.2.1 x.2.2.1.2.2.2.1 x.2.2.1.2.2.2.2.1 x.2.2.1.2.2.2.2.2.1 x.2.2.1.2.2.2.2.2.2.1 x.2.2.1.2.2.2.2.2.2.2.1 x.2.2.1.2.2.2.2.2.2.2.2.1 x.2.2.1.2.2.2.2.2.2.2.2.2.1 x.2.2.1.2.2.2.2.2.2.2.2.2.2.1 x.2.2.1.2.2.2.2.2.2.2.2.2.2.2.1 x.2.2.1.2.2.2.2.2.2.2.2.2.2.2.2.1 x.2.2.1.2.2.2.2.2.2.2.2.2.2.2.2.2.1 x.2.2.1.2.2.2.2.2.2.2.2.2.2.2.2.2.2.1 x.2.2.2.1.1 x.2.2.2.1.2.1 x.2.2.2.1.2.2.1 x.2.2.2.1.2.2.2.1 x.2.2.2.1.2.2.2.2.1 x.2.2.2.1.2.2.2.2.2.1 x.2.2.2.1.2.2.2.2.2.2.1 x.2.2.2.1.2.2.2.2.2.2.2.1 x.2.2.2.1.2.2.2.2.2.2.2.2.1 x.2.2.2.1.2.2.2.2.2.2.2.2.2.1 x.2.2.2.1.2.2.2.2.2.2.2.2.2.2.1 x.2.2.2.1.2.2.2.2.2.2.2.2.2.2.2.1 x.2.2.2.1.2.2.2.2.2.2.2.2.2.2.2.2.1 x.2.2.2.1.2.2.2.2.2.2.2.2.2.2.2.2.2.1 x.2.2.2.1.2.2.2.2.2.2.2.2.2.2.2.2.2.2.1 x.2.2.2.2.1 x.2.2.2.2.2.1 x.2.2.2.2.2.2.1 x.2.2.2.2.2.2.2.1 x.2.2.2.2.2.2.2.2.1 x.2.2.2.2.2.2.2.2.2.1 x.2.2.2.2.2.2.2.2.2.2.1 x.2.2.2.2.2.2.2.2.2.2.2.1
noncomputable def a88rd:Nat→Option LoopAnn:=fun c=>bif Nat.beq c 0 then some (.fix h88rd_L0 e88rd_L0 s88rd_L0) else bif Nat.beq c 2 then some (.fix h88rd_L2 e88rd_L2 s88rd_L2) else bif Nat.beq c 4 then some (.fix h88rd_L4 e88rd_L4 s88rd_L4) else bif Nat.beq c 6 then some (.fix h88rd_L6 e88rd_L6 s88rd_L6) else none
noncomputable def g88rd (x0:Ta6) (x1:Int):Option (Ta133×Ta17) :=
(g87dw x0 (L.of (Ty.zero (.int .i64)) [(1:Int),(2:Int),(4:Int)])).bind fun y1=>(g84d y1.2.1 (2:Int)).bind fun y2=>(g87dw y2.2.1 (L.of (Ty.zero (.int .i64)) [(4:Int),(8:Int),(16:Int)])).bind fun y3=>(g84d y3.2.1 (4:Int)).bind fun y4=>(g84d y4.2.1 (2:Int)).bind fun y5=>(g84d y5.2.1 (4:Int)).bind fun y6=>(g84d y6.2.1 (3:Int)).bind fun y7=>(g84d y7.2.1 (6:Int)).bind fun y8=>(g84d y8.2.1 (4:Int)).bind fun y9=>(g84d y9.2.1 (3:Int)).bind fun y10=>(g84d y10.2.1 (3:Int)).bind fun y11=>(g84d y11.2.1 (4:Int)).bind fun y12=>(fixO s88rd_L0 (((),(x1,((),((),((wI ((4:Int) * y12.1.1)),((0:Int),())))))),(y12.2.1,(((0:Int),((0:Int),((0:Int),((0:Int),((0:Int),((0:Int),((0:Int),((0:Int),((0:Int),((0:Int),((0:Int),((0:Int),((0:Int),((0:Int),((0:Int),((nilL Ty107),((nilL (.int .i64)),((nilL Ty77),((nilL Ty61),()))))))))))))))))))),(((0:Int),(y1.1.1,((wI ((1:Int) + y2.1.1)),(y3.1.1,((wI ((1:Int) + y4.1.1)),((wI ((1:Int) + y5.1.1)),(y6.1.1,(y7.1.1,(y8.1.1,(y9.1.1,(y10.1.1,(y11.1.1,((0:Int),((0:Int),((0:Int),((nilL Ty107),((nilL (.int .i64)),((nilL Ty77),((nilL Ty61),()))))))))))))))))))),()))))).bind fun d41=>match d41 with | .inl y18=>((fixO s88rd_L2 (((),(y18.1.2.1,((),((),((0:Int),()))))),(y18.2.1,((y18.2.2.1.1,(y18.2.2.1.2.1,(y18.2.2.1.2.2.1,(y18.2.2.1.2.2.2.1,(y18.2.2.1.2.2.2.2.1,(y18.2.2.1.2.2.2.2.2.1,(y18.2.2.1.2.2.2.2.2.2.1,(y18.2.2.1.2.2.2.2.2.2.2.1,(y18.2.2.1.2.2.2.2.2.2.2.2.1,(y18.2.2.1.2.2.2.2.2.2.2.2.2.1,(y18.2.2.1.2.2.2.2.2.2.2.2.2.2.1,(y18.2.2.1.2.2.2.2.2.2.2.2.2.2.2.1,(y18.2.2.1.2.2.2.2.2.2.2.2.2.2.2.2.1,(y18.2.2.1.2.2.2.2.2.2.2.2.2.2.2.2.2.1,(y18.2.2.1.2.2.2.2.2.2.2.2.2.2.2.2.2.2.1,((),((),((),((),()))))))))))))))))))),(((wI (y18.1.2.2.2.2.1 + (64:Int))),(y18.2.2.2.1.2.1,(y18.2.2.2.1.2.2.1,(y18.2.2.2.1.2.2.2.1,(y18.2.2.2.1.2.2.2.2.1,(y18.2.2.2.1.2.2.2.2.2.1,(y18.2.2.2.1.2.2.2.2.2.2.1,(y18.2.2.2.1.2.2.2.2.2.2.2.1,(y18.2.2.2.1.2.2.2.2.2.2.2.2.1,(y18.2.2.2.1.2.2.2.2.2.2.2.2.2.1,(y18.2.2.2.1.2.2.2.2.2.2.2.2.2.2.1,(y18.2.2.2.1.2.2.2.2.2.2.2.2.2.2.2.1,(y18.2.2.2.1.2.2.2.2.2.2.2.2.2.2.2.2.1,(y18.2.2.2.1.2.2.2.2.2.2.2.2.2.2.2.2.2.1,(y18.2.2.2.1.2.2.2.2.2.2.2.2.2.2.2.2.2.2.1,((),((),((),((),()))))))))))))))))))),y18.2.2.2.2))))).bind fun d40=>match d40 with | .inl y21=>((fixO s88rd_L4 (((),(y21.1.2.1,((),((),((0:Int),()))))),(y21.2.1,((y21.2.2.1.1,(y21.2.2.1.2.1,(y21.2.2.1.2.2.1,(y21.2.2.1.2.2.2.1,(y21.2.2.1.2.2.2.2.1,(y21.2.2.1.2.2.2.2.2.1,(y21.2.2.1.2.2.2.2.2.2.1,(y21.2.2.1.2.2.2.2.2.2.2.1,(y21.2.2.1.2.2.2.2.2.2.2.2.1,(y21.2.2.1.2.2.2.2.2.2.2.2.2.1,(y21.2.2.1.2.2.2.2.2.2.2.2.2.2.1,(y21.2.2.1.2.2.2.2.2.2.2.2.2.2.2.1,(y21.2.2.1.2.2.2.2.2.2.2.2.2.2.2.2.1,(y21.2.2.1.2.2.2.2.2.2.2.2.2.2.2.2.2.1,(y21.2.2.1.2.2.2.2.2.2.2.2.2.2.2.2.2.2.1,((),((),((),((),()))))))))))))))))))),((y21.2.2.2.1.1,(y21.2.2.2.1.2.1,(y21.2.2.2.1.2.2.1,(y21.2.2.2.1.2.2.2.1,(y21.2.2.2.1.2.2.2.2.1,(y21.2.2.2.1.2.2.2.2.2.1,(y21.2.2.2.1.2.2.2.2.2.2.1,(y21.2.2.2.1.2.2.2.2.2.2.2.1,(y21.2.2.2.1.2.2.2.2.2.2.2.2.1,(y21.2.2.2.1.2.2.2.2.2.2.2.2.2.1,(y21.2.2.2.1.2.2.2.2.2.2.2.2.2.2.1,(y21.2.2.2.1.2.2.2.2.2.2.2.2.2.2.2.1,(y21.2.2.2.1.2.2.2.2.2.2.2.2.2.2.2.2.1,(y21.2.2.2.1.2.2.2.2.2.2.2.2.2.2.2.2.2.1,(y21.2.2.2.1.2.2.2.2.2.2.2.2.2.2.2.2.2.2.1,((),((),((),((),()))))))))))))))))))),y21.2.2.2.2))))).bind fun d39=>match d39 with | .inl y24=>(g115 (y24.2.2.2.1.2.2.2.2.2.1,(y24.2.2.2.1.2.2.2.2.2.2.1,(y24.2.2.2.1.2.2.2.2.2.2.2.1,(y24.2.2.2.1.2.2.2.2.2.2.2.2.1,(y24.2.2.2.1.2.2.2.2.2.2.2.2.2.1,(y24.2.2.2.1.2.2.2.2.2.2.2.2.2.2.1,(y24.2.2.2.1.2.2.2.2.2.2.2.2.2.2.2.1,())))))))).bind fun y25=>(g87dw y24.2.1 (L.of (Ty.zero (.int .i64)) [(0:Int),(0:Int),(1:Int),(5:Int)])).bind fun y26=>(g116 (y24.2.2.2.1.2.2.2.2.2.1,(y24.2.2.2.1.2.2.2.2.2.2.1,(y24.2.2.2.1.2.2.2.2.2.2.2.1,(y24.2.2.2.1.2.2.2.2.2.2.2.2.1,(y24.2.2.2.1.2.2.2.2.2.2.2.2.2.1,(y24.2.2.2.1.2.2.2.2.2.2.2.2.2.2.1,(y24.2.2.2.1.2.2.2.2.2.2.2.2.2.2.2.1,()))))))) (y24.2.2.2.1.2.1,(y24.2.2.2.1.2.2.1,(y24.2.2.2.1.2.2.2.1,()))) y24.2.2.2.2.2.2.2.2.2.2.1).bind fun y27=>(g87dw y26.2.1 (L.of (Ty.zero (.int .i64)) [(0:Int),(0:Int),(1:Int),(7:Int)])).bind fun y28=>(g87dw y28.2.1 (L.of (Ty.zero (.int .i64)) [(0:Int),(0:Int),(5:Int)])).bind fun y29=>((fixO s88rd_L6 (((),(y24.1.2.1,((),((),(y29.1.1,((0:Int),())))))),(y29.2.1,((y24.2.2.1.1,(y24.2.2.1.2.1,(y24.2.2.1.2.2.1,(y24.2.2.1.2.2.2.1,(y24.2.2.1.2.2.2.2.1,(y24.2.2.1.2.2.2.2.2.1,(y24.2.2.1.2.2.2.2.2.2.1,(y24.2.2.1.2.2.2.2.2.2.2.1,(y24.2.2.1.2.2.2.2.2.2.2.2.1,(y24.2.2.1.2.2.2.2.2.2.2.2.2.1,(y24.2.2.1.2.2.2.2.2.2.2.2.2.2.1,(y24.2.2.1.2.2.2.2.2.2.2.2.2.2.2.1,(y24.2.2.1.2.2.2.2.2.2.2.2.2.2.2.2.1,(y24.2.2.1.2.2.2.2.2.2.2.2.2.2.2.2.2.1,(y24.2.2.1.2.2.2.2.2.2.2.2.2.2.2.2.2.2.1,((),((),((),((),()))))))))))))))))))),((y24.2.2.2.1.1,(y24.2.2.2.1.2.1,(y24.2.2.2.1.2.2.1,(y24.2.2.2.1.2.2.2.1,(y24.2.2.2.1.2.2.2.2.1,(y24.2.2.2.1.2.2.2.2.2.1,(y24.2.2.2.1.2.2.2.2.2.2.1,(y24.2.2.2.1.2.2.2.2.2.2.2.1,(y24.2.2.2.1.2.2.2.2.2.2.2.2.1,(y24.2.2.2.1.2.2.2.2.2.2.2.2.2.1,(y24.2.2.2.1.2.2.2.2.2.2.2.2.2.2.1,(y24.2.2.2.1.2.2.2.2.2.2.2.2.2.2.2.1,((wI (y27.1.1 + y28.1.1)),((wI (y25.1.1 + y26.1.1)),(y24.2.2.2.1.2.2.2.2.2.2.2.2.2.2.2.2.2.2.1,((),((),((),((),()))))))))))))))))))),y24.2.2.2.2))))).bind fun d38=>match d38 with | .inl y36=>bif (decide (0≤(wI ((y36.2.2.2.2.2.2.2.2.2.2.2.1.len:Int) - (1:Int))))&&decide ((wI ((y36.2.2.2.2.2.2.2.2.2.2.2.1.len:Int) - (1:Int))) < (y36.2.2.2.2.2.2.2.2.2.2.2.1.len:Int))) then (g87dw y36.2.1 (L.of (Ty.zero (.int .i64)) [(0:Int),(0:Int),(1:Int),(20:Int)])).bind fun y37=>some (((y36.2.2.2.1.1,((y36.2.2.2.1.2.1,(y36.2.2.2.1.2.2.1,(y36.2.2.2.1.2.2.2.1,()))),(y36.2.2.2.1.2.2.2.2.1,((y36.2.2.2.1.2.2.2.2.2.1,(y36.2.2.2.1.2.2.2.2.2.2.1,(y36.2.2.2.1.2.2.2.2.2.2.2.1,(y36.2.2.2.1.2.2.2.2.2.2.2.2.1,(y36.2.2.2.1.2.2.2.2.2.2.2.2.2.1,(y36.2.2.2.1.2.2.2.2.2.2.2.2.2.2.1,(y36.2.2.2.1.2.2.2.2.2.2.2.2.2.2.2.1,()))))))),(y36.2.2.2.1.2.2.2.2.2.2.2.2.2.2.2.2.1,(y36.2.2.2.1.2.2.2.2.2.2.2.2.2.2.2.2.2.1,((wI ((wI ((L.get y36.2.2.2.2.2.2.2.2.2.2.2.1 (wI ((y36.2.2.2.2.2.2.2.2.2.2.2.1.len:Int) - (1:Int))).toNat).2.1 + (L.get y36.2.2.2.2.2.2.2.2.2.2.2.1 (wI ((y36.2.2.2.2.2.2.2.2.2.2.2.1.len:Int) - (1:Int))).toNat).2.2.1)) + y37.1.1)),y36.2.2.2.2.2.2.2.2))))))),()),(y37.2.1,())) else none | .inr e=>nomatch e) | .inr e=>nomatch e) | .inr e=>nomatch e) | .inr e=>nomatch e
noncomputable def c88rd:Ctr:={ ins:=[.pd Ty65,.v (.int .i64)],out:=[Ty150],F:=fun x=>g88rd x.1 x.2.1,fr:=1 }
noncomputable def l88rd:List (Nat×Code):=loopsIn (Try.f88.body.getD .skip) 0
theorem w88rd_L0:LW t88rd a88rd l88rd 0 0 h88rd_L0 e88rd_L0 s88rd_L0:=fun x=>by kernel_rfl
theorem w88rd_L2:LW t88rd a88rd l88rd 1 2 h88rd_L2 e88rd_L2 s88rd_L2:=fun x=>by kernel_rfl
theorem w88rd_L4:LW t88rd a88rd l88rd 2 4 h88rd_L4 e88rd_L4 s88rd_L4:=fun x=>by kernel_rfl
theorem w88rd_L6:LW t88rd a88rd l88rd 3 6 h88rd_L6 e88rd_L6 s88rd_L6:=fun x=>by kernel_rfl
theorem o88rd:Holds Try.prog 88 c88rd:=fh t88rd a88rd Try.func88 [(0,lg l88rd 0),(2,lg l88rd 1),(4,lg l88rd 2),(6,lg l88rd 3)] ⟨fun x d h=>(w88rd_L0 x).trans h,fun x d h=>(w88rd_L2 x).trans h,fun x d h=>(w88rd_L4 x).trans h,fun x d h=>(w88rd_L6 x).trans h,trivial⟩ (tc o87dw (tc o84d (tc o113d (tc o114d (tc o115 (tc o116 (tc o86d tn)))))))
noncomputable def t95d:Tbl:=[(84,[],c84d),(88,[],c88rd),(87,[],c87dw),(116,[],c116),(115,[],c115),(131,[],c131dw)]
noncomputable def g95d (x0:Ta6):Option (Ta133×Ta17) :=
(g84d x0 (3:Int)).bind fun y1=>(g88rd y1.2.1 (wI ((2:Int) + y1.1.1))).bind fun y2=>(g84d y2.2.1 (36:Int)).bind fun y3=>bif (y3.1.1 == (0:Int)) then (g87dw y3.2.1 (L.of (Ty.zero (.int .i64)) [(0:Int),(60:Int),(64:Int),(wI (y2.1.1.1 + (2:Int))),(wI (y2.1.1.1 - (64:Int))),(2052:Int)])).bind fun y4=>some (((y4.1.1,(y2.1.1.2.1,(y2.1.1.2.2.1,(y2.1.1.2.2.2.1,(y2.1.1.2.2.2.2.1,(y2.1.1.2.2.2.2.2.1,(y2.1.1.2.2.2.2.2.2.1,y2.1.1.2.2.2.2.2.2.2))))))),()),(y4.2.1,())) else bif (y3.1.1 == (1:Int)) then some (((y2.1.1.1,((y2.1.1.2.1.1,((0:Int),y2.1.1.2.1.2.2)),(y2.1.1.2.2.1,(y2.1.1.2.2.2.1,(y2.1.1.2.2.2.2.1,(y2.1.1.2.2.2.2.2.1,(y2.1.1.2.2.2.2.2.2.1,y2.1.1.2.2.2.2.2.2.2))))))),()),(y3.2.1,())) else bif (y3.1.1 == (2:Int)) then (g87dw y3.2.1 (L.of (Ty.zero (.int .i64)) [(0:Int),(9:Int)])).bind fun y5=>some (((y2.1.1.1,(y2.1.1.2.1,(y5.1.1,(y2.1.1.2.2.2.1,(y2.1.1.2.2.2.2.1,(y2.1.1.2.2.2.2.2.1,(y2.1.1.2.2.2.2.2.2.1,y2.1.1.2.2.2.2.2.2.2))))))),()),(y5.2.1,())) else bif (y3.1.1 == (3:Int)) then some (((y2.1.1.1,(y2.1.1.2.1,(y2.1.1.2.2.1,(((0:Int),y2.1.1.2.2.2.1.2),(y2.1.1.2.2.2.2.1,(y2.1.1.2.2.2.2.2.1,(y2.1.1.2.2.2.2.2.2.1,y2.1.1.2.2.2.2.2.2.2))))))),()),(y3.2.1,())) else bif (y3.1.1 == (4:Int)) then (g116 y2.1.1.2.2.2.1 y2.1.1.2.1 y2.1.1.2.2.2.2.2.2.2.2.2.1).bind fun y6=>(g87dw y3.2.1 (L.of (Ty.zero (.int .i64)) [(0:Int),(wI (y6.1.1 - (1:Int))),(5001:Int)])).bind fun y7=>some (((y2.1.1.1,(y2.1.1.2.1,(y2.1.1.2.2.1,(y2.1.1.2.2.2.1,(y7.1.1,(y2.1.1.2.2.2.2.2.1,(y2.1.1.2.2.2.2.2.2.1,y2.1.1.2.2.2.2.2.2.2))))))),()),(y7.2.1,())) else bif (y3.1.1 == (5:Int)) then (g115 y2.1.1.2.2.2.1).bind fun y8=>some (((y2.1.1.1,(y2.1.1.2.1,(y2.1.1.2.2.1,(y2.1.1.2.2.2.1,(y2.1.1.2.2.2.2.1,((wI (y8.1.1 - (1:Int))),(y2.1.1.2.2.2.2.2.2.1,y2.1.1.2.2.2.2.2.2.2))))))),()),(y3.2.1,())) else bif (y3.1.1 == (6:Int)) then bif (decide (0≤(wI ((y2.1.1.2.2.2.2.2.2.2.2.2.2.1.len:Int) - (1:Int))))&&decide ((wI ((y2.1.1.2.2.2.2.2.2.2.2.2.2.1.len:Int) - (1:Int))) < (y2.1.1.2.2.2.2.2.2.2.2.2.2.1.len:Int))) then bif (decide (0≤(wI ((y2.1.1.2.2.2.2.2.2.2.2.2.2.1.len:Int) - (1:Int))))&&decide ((wI ((y2.1.1.2.2.2.2.2.2.2.2.2.2.1.len:Int) - (1:Int))) < (y2.1.1.2.2.2.2.2.2.2.2.2.2.1.len:Int))) then some (((y2.1.1.1,(y2.1.1.2.1,(y2.1.1.2.2.1,(y2.1.1.2.2.2.1,(y2.1.1.2.2.2.2.1,(y2.1.1.2.2.2.2.2.1,((wI ((wI ((L.get y2.1.1.2.2.2.2.2.2.2.2.2.2.1 (wI ((y2.1.1.2.2.2.2.2.2.2.2.2.2.1.len:Int) - (1:Int))).toNat).2.1 + (L.get y2.1.1.2.2.2.2.2.2.2.2.2.2.1 (wI ((y2.1.1.2.2.2.2.2.2.2.2.2.2.1.len:Int) - (1:Int))).toNat).2.2.1)) - (1:Int))),y2.1.1.2.2.2.2.2.2.2))))))),()),(y3.2.1,())) else none else none else bif (y3.1.1 == (7:Int)) then (g131dw y3.2.1 (L.of (Ty.zero .str) [(⟨#[98,101,116,97]⟩:ByteArray),(⟨#[]⟩:ByteArray),(⟨#[97,98,99,100,101,102,103,104,105]⟩:ByteArray),(⟨#[65,108,112,104,97]⟩:ByteArray)])).bind fun y9=>bif (decide ((0:Int) < (y2.1.1.2.2.2.2.2.2.2.1.len:Int))) then some (((y2.1.1.1,(y2.1.1.2.1,(y2.1.1.2.2.1,(y2.1.1.2.2.2.1,(y2.1.1.2.2.2.2.1,(y2.1.1.2.2.2.2.2.1,(y2.1.1.2.2.2.2.2.2.1,((L.upd y2.1.1.2.2.2.2.2.2.2.1 (0:Int).toNat fun e=>(y9.1.1,e.2)),y2.1.1.2.2.2.2.2.2.2.2)))))))),()),(y9.2.1,())) else none else bif (y3.1.1 == (8:Int)) then bif (decide ((0:Int) < (y2.1.1.2.2.2.2.2.2.2.1.len:Int))) then (g87dw y3.2.1 (L.of (Ty.zero (.int .i64)) [(1:Int),(128:Int),(-4:Int),(132:Int)])).bind fun y10=>bif (decide ((0:Int) < (y2.1.1.2.2.2.2.2.2.2.1.len:Int))) then some (((y2.1.1.1,(y2.1.1.2.1,(y2.1.1.2.2.1,(y2.1.1.2.2.2.1,(y2.1.1.2.2.2.2.1,(y2.1.1.2.2.2.2.2.1,(y2.1.1.2.2.2.2.2.2.1,((L.upd y2.1.1.2.2.2.2.2.2.2.1 (0:Int).toNat fun e=>(e.1,((wI ((L.get y2.1.1.2.2.2.2.2.2.2.1 (0:Int).toNat).2.1 + y10.1.1)),e.2.2))),y2.1.1.2.2.2.2.2.2.2.2)))))))),()),(y10.2.1,())) else none else none else bif (y3.1.1 == (9:Int)) then bif (decide ((1:Int) < (y2.1.1.2.2.2.2.2.2.2.1.len:Int))) then bif (decide ((0:Int) < (y2.1.1.2.2.2.2.2.2.2.1.len:Int))) then bif (decide ((0:Int) < ((L.get y2.1.1.2.2.2.2.2.2.2.1 (0:Int).toNat).2.2.2.1.len:Int))) then bif (decide ((0:Int) < ((L.get y2.1.1.2.2.2.2.2.2.2.1 (1:Int).toNat).2.2.2.1.len:Int))) then some (((y2.1.1.1,(y2.1.1.2.1,(y2.1.1.2.2.1,(y2.1.1.2.2.2.1,(y2.1.1.2.2.2.2.1,(y2.1.1.2.2.2.2.2.1,(y2.1.1.2.2.2.2.2.2.1,((L.upd y2.1.1.2.2.2.2.2.2.2.1 (1:Int).toNat fun e=>(e.1,(e.2.1,(e.2.2.1,((L.upd e.2.2.2.1 (0:Int).toNat fun e=>((L.get (L.get y2.1.1.2.2.2.2.2.2.2.1 (0:Int).toNat).2.2.2.1 (0:Int).toNat).1,e.2)),e.2.2.2.2))))),y2.1.1.2.2.2.2.2.2.2.2)))))))),()),(y3.2.1,())) else none else none else none else none else bif (y3.1.1 == (10:Int)) then bif (decide ((0:Int) < (y2.1.1.2.2.2.2.2.2.2.1.len:Int))) then some (((y2.1.1.1,(y2.1.1.2.1,(y2.1.1.2.2.1,(y2.1.1.2.2.2.1,(y2.1.1.2.2.2.2.1,(y2.1.1.2.2.2.2.2.1,(y2.1.1.2.2.2.2.2.2.1,((L.upd y2.1.1.2.2.2.2.2.2.2.1 (0:Int).toNat fun e=>(e.1,(e.2.1,(((3:Int),e.2.2.1.2),e.2.2.2)))),y2.1.1.2.2.2.2.2.2.2.2)))))))),()),(y3.2.1,())) else none else bif (y3.1.1 == (11:Int)) then bif (decide ((0:Int) < (y2.1.1.2.2.2.2.2.2.2.1.len:Int))) then some (((y2.1.1.1,(y2.1.1.2.1,(y2.1.1.2.2.1,(y2.1.1.2.2.2.1,(y2.1.1.2.2.2.2.1,(y2.1.1.2.2.2.2.2.1,(y2.1.1.2.2.2.2.2.2.1,((L.upd y2.1.1.2.2.2.2.2.2.2.1 (0:Int).toNat fun e=>(e.1,(e.2.1,(e.2.2.1,((L.of (Ty.zero Ty61) []),e.2.2.2.2))))),y2.1.1.2.2.2.2.2.2.2.2)))))))),()),(y3.2.1,())) else none else bif (y3.1.1 == (12:Int)) then (g87dw y3.2.1 (L.of (Ty.zero (.int .i64)) [(-1:Int),(y2.1.1.2.2.2.2.2.2.2.1.len:Int)])).bind fun y11=>bif (decide (y2.1.1.2.2.2.2.2.2.2.2.1.len + (L.of (Ty.zero (.int .i64)) [y11.1.1]).len≤most)) then some (((y2.1.1.1,(y2.1.1.2.1,(y2.1.1.2.2.1,(y2.1.1.2.2.2.1,(y2.1.1.2.2.2.2.1,(y2.1.1.2.2.2.2.2.1,(y2.1.1.2.2.2.2.2.2.1,(y2.1.1.2.2.2.2.2.2.2.1,((L.app y2.1.1.2.2.2.2.2.2.2.2.1 (L.of (Ty.zero (.int .i64)) [y11.1.1])),y2.1.1.2.2.2.2.2.2.2.2.2))))))))),()),(y11.2.1,())) else none else bif (y3.1.1 == (13:Int)) then (g87dw y3.2.1 (L.of (Ty.zero (.int .i64)) [(0:Int),(y2.1.1.2.2.2.2.2.2.2.1.len:Int),(1:Int)])).bind fun y12=>bif (decide (y2.1.1.2.2.2.2.2.2.2.2.2.1.len + (L.of (Ty.zero Ty77) [((1:Int),((0:Int),(y12.1.1,((1:Int),()))))]).len≤most)) then some (((y2.1.1.1,(y2.1.1.2.1,(y2.1.1.2.2.1,(y2.1.1.2.2.2.1,(y2.1.1.2.2.2.2.1,(y2.1.1.2.2.2.2.2.1,(y2.1.1.2.2.2.2.2.2.1,(y2.1.1.2.2.2.2.2.2.2.1,(y2.1.1.2.2.2.2.2.2.2.2.1,((L.app y2.1.1.2.2.2.2.2.2.2.2.2.1 (L.of (Ty.zero Ty77) [((1:Int),((0:Int),(y12.1.1,((1:Int),()))))])),y2.1.1.2.2.2.2.2.2.2.2.2.2)))))))))),()),(y12.2.1,())) else none else bif (y3.1.1 == (14:Int)) then (g87dw y3.2.1 (L.of (Ty.zero (.int .i64)) [(-1:Int),(y2.1.1.2.2.2.2.2.2.2.1.len:Int)])).bind fun y13=>bif (decide (0≤(wI ((y2.1.1.2.2.2.2.2.2.2.2.2.2.1.len:Int) - (1:Int))))&&decide ((wI ((y2.1.1.2.2.2.2.2.2.2.2.2.2.1.len:Int) - (1:Int))) < (y2.1.1.2.2.2.2.2.2.2.2.2.2.1.len:Int))) then some (((y2.1.1.1,(y2.1.1.2.1,(y2.1.1.2.2.1,(y2.1.1.2.2.2.1,(y2.1.1.2.2.2.2.1,(y2.1.1.2.2.2.2.2.1,(y2.1.1.2.2.2.2.2.2.1,(y2.1.1.2.2.2.2.2.2.2.1,(y2.1.1.2.2.2.2.2.2.2.2.1,(y2.1.1.2.2.2.2.2.2.2.2.2.1,((L.set y2.1.1.2.2.2.2.2.2.2.2.2.2.1 (wI ((y2.1.1.2.2.2.2.2.2.2.2.2.2.1.len:Int) - (1:Int))).toNat (y13.1.1,(L.get y2.1.1.2.2.2.2.2.2.2.2.2.2.1 (wI ((y2.1.1.2.2.2.2.2.2.2.2.2.2.1.len:Int) - (1:Int))).toNat).2)),()))))))))))),()),(y13.2.1,())) else none else bif (y3.1.1 == (15:Int)) then bif (decide (0≤(wI ((y2.1.1.2.2.2.2.2.2.2.2.2.2.1.len:Int) - (1:Int))))&&decide ((wI ((y2.1.1.2.2.2.2.2.2.2.2.2.2.1.len:Int) - (1:Int))) < (y2.1.1.2.2.2.2.2.2.2.2.2.2.1.len:Int))) then bif (decide (0≤(wI ((y2.1.1.2.2.2.2.2.2.2.2.2.2.1.len:Int) - (1:Int))))&&decide ((wI ((y2.1.1.2.2.2.2.2.2.2.2.2.2.1.len:Int) - (1:Int))) < (y2.1.1.2.2.2.2.2.2.2.2.2.2.1.len:Int))) then some (((y2.1.1.1,(y2.1.1.2.1,(y2.1.1.2.2.1,(y2.1.1.2.2.2.1,(y2.1.1.2.2.2.2.1,(y2.1.1.2.2.2.2.2.1,(y2.1.1.2.2.2.2.2.2.1,(y2.1.1.2.2.2.2.2.2.2.1,(y2.1.1.2.2.2.2.2.2.2.2.1,(y2.1.1.2.2.2.2.2.2.2.2.2.1,((L.set y2.1.1.2.2.2.2.2.2.2.2.2.2.1 (wI ((y2.1.1.2.2.2.2.2.2.2.2.2.2.1.len:Int) - (1:Int))).toNat ((L.get y2.1.1.2.2.2.2.2.2.2.2.2.2.1 (wI ((y2.1.1.2.2.2.2.2.2.2.2.2.2.1.len:Int) - (1:Int))).toNat).1,((wI ((L.get y2.1.1.2.2.2.2.2.2.2.2.2.2.1 (wI ((y2.1.1.2.2.2.2.2.2.2.2.2.2.1.len:Int) - (1:Int))).toNat).2.1 - (9:Int))),(L.get y2.1.1.2.2.2.2.2.2.2.2.2.2.1 (wI ((y2.1.1.2.2.2.2.2.2.2.2.2.2.1.len:Int) - (1:Int))).toNat).2.2))),()))))))))))),()),(y3.2.1,())) else none else none else bif (y3.1.1 == (16:Int)) then bif (decide ((0:Int) < (y2.1.1.2.2.2.2.2.2.2.2.2.2.1.len:Int))) then some (((y2.1.1.1,(y2.1.1.2.1,(y2.1.1.2.2.1,(y2.1.1.2.2.2.1,(y2.1.1.2.2.2.2.1,(y2.1.1.2.2.2.2.2.1,(y2.1.1.2.2.2.2.2.2.1,(y2.1.1.2.2.2.2.2.2.2.1,(y2.1.1.2.2.2.2.2.2.2.2.1,(y2.1.1.2.2.2.2.2.2.2.2.2.1,((L.set y2.1.1.2.2.2.2.2.2.2.2.2.2.1 (0:Int).toNat ((L.get y2.1.1.2.2.2.2.2.2.2.2.2.2.1 (0:Int).toNat).1,((L.get y2.1.1.2.2.2.2.2.2.2.2.2.2.1 (0:Int).toNat).2.1,((wI (y2.1.1.2.2.2.2.1 + y2.1.1.2.2.2.2.2.1)),())))),()))))))))))),()),(y3.2.1,())) else none else bif (y3.1.1 == (17:Int)) then some (((y2.1.1.1,(y2.1.1.2.1,(y2.1.1.2.2.1,(y2.1.1.2.2.2.1,(y2.1.1.2.2.2.2.1,(y2.1.1.2.2.2.2.2.1,(y2.1.1.2.2.2.2.2.2.1,(y2.1.1.2.2.2.2.2.2.2.1,(y2.1.1.2.2.2.2.2.2.2.2.1,(y2.1.1.2.2.2.2.2.2.2.2.2.1,((L.of (Ty.zero Ty61) []),()))))))))))),()),(y3.2.1,())) else bif (y3.1.1 == (18:Int)) then bif (decide ((0:Int) < (y2.1.1.2.2.2.2.2.2.2.1.len:Int))) then bif (decide ((0:Int) < ((L.get y2.1.1.2.2.2.2.2.2.2.1 (0:Int).toNat).2.2.2.1.len:Int))) then some (((y2.1.1.1,(y2.1.1.2.1,(y2.1.1.2.2.1,(y2.1.1.2.2.2.1,(y2.1.1.2.2.2.2.1,(y2.1.1.2.2.2.2.2.1,(y2.1.1.2.2.2.2.2.2.1,((L.upd y2.1.1.2.2.2.2.2.2.2.1 (0:Int).toNat fun e=>(e.1,(e.2.1,(e.2.2.1,((L.upd e.2.2.2.1 (0:Int).toNat fun e=>(e.1,(e.2.1,((3:Int),())))),e.2.2.2.2))))),y2.1.1.2.2.2.2.2.2.2.2)))))))),()),(y3.2.1,())) else none else none else some (((y2.1.1.1,(y2.1.1.2.1,(y2.1.1.2.2.1,(y2.1.1.2.2.2.1,(y2.1.1.2.2.2.2.1,(y2.1.1.2.2.2.2.2.1,(y2.1.1.2.2.2.2.2.2.1,y2.1.1.2.2.2.2.2.2.2))))))),()),(y3.2.1,()))
noncomputable def c95d:Ctr:={ ins:=[.pd Ty65],out:=[Ty150],F:=fun x=>g95d x.1 }
theorem o95d:Holds Try.prog 95 c95d:=f0 t95d Try.func95 (tc o84d (tc o88rd (tc o87dw (tc o116 (tc o115 (tc o131dw tn))))))
noncomputable def t85:Tbl:=[]
noncomputable def g85 (x0:(L Int)) (x1:Int):Option ((Int×Unit)×Unit) :=
bif (decide ((wI ((2:Int) + (wI (Int.tdiv (x0.len:Int) (20:Int))))) > x1)) then some ((x1,()),()) else some (((wI ((2:Int) + (wI (Int.tdiv (x0.len:Int) (20:Int))))),()),())
noncomputable def f85 (x0:(L Int)) (x1:Int):Int :=
bif (decide ((wI ((2:Int) + (wI (Int.tdiv (x0.len:Int) (20:Int))))) > x1)) then x1 else (wI ((2:Int) + (wI (Int.tdiv (x0.len:Int) (20:Int)))))
theorem n85 (x0:(L Int)) (x1:Int):g85 x0 x1 = some ((f85 x0 x1,()),()):=by simp only [g85,f85,pull1]
noncomputable def c85:Ctr:={ ins:=[.v (.sl (.int .u8)),.v (.int .i64)],out:=[(.int .i64)],F:=fun x=>some ((f85 x.1 x.2.1,()),()) }
theorem o85:Holds Try.prog 85 c85:=f0T t85 (fun x=>g85 x.1 x.2.1) Try.func85 tn (fun x=>n85 x.1 x.2.1)
noncomputable def t106r:Tbl:=[(105,[],c105)]
abbrev h106r_L0:Shape:={ slots:=[(1,.bx 1 0),(2,.bx 2 0),(3,.bx 3 0),(4,.v (.int .i64))],boxes:=[(1,.typ Ty61),(2,.cells [.v (.int .i64),.v (.int .i64),.v (.int .i64),.row Ty35 60131]),(3,.cells [.v (.int .i64),.v (.int .i64),.v (.int .i64),.row Ty35 60195])] }
abbrev e106r_L0:List (XT×Shape):=[(.exit 0,{ slots:=[(2,.bx 2 0),(3,.bx 3 0)],boxes:=[(2,.cells [.v (.int .i64),.v (.int .i64),.v (.int .i64),.ms 60131]),(3,.cells [.v (.int .i64),.v (.int .i64),.v (.int .i64),.ms 60195]),(60131,.row Ty35),(60195,.row Ty35)] })]
noncomputable def q106r_L0 (t4:Int) (b1:(Int×(Int×(Int×Unit)))) (b2_0:Int) (b2_1:Int) (b2_2:Int) (b2_3:Ta5) (b3_0:Int) (b3_1:Int) (b3_2:Int) (b3_3:Ta5):Option (((Unit×Ta0)×((Int×(Int×(Int×Unit)))×Ta90))⊕(((Unit×(Unit×Unit))×(Ta9×(Ta9×Ta57)))⊕Empty)) :=
bif (decide (t4 < b1.1)) then bif (decide (b3_3.len + (L.of (Ty.zero Ty35) [(L.of (Ty.zero Ty26) [])]).len≤most)) then some (.inl (((),((),((),((wI (t4 + (1:Int))),())))),(b1,((b2_0,(b2_1,(b2_2,(b2_3,())))),((b3_0,(b3_1,(b3_2,((L.app b3_3 (L.of (Ty.zero Ty35) [(L.of (Ty.zero Ty26) [])])),())))),()))))) else none else some (.inr (.inl (((),((),())),((b2_0,(b2_1,(b2_2,((),())))),((b3_0,(b3_1,(b3_2,((),())))),(b2_3,(b3_3,())))))))
noncomputable def s106r_L0 (x:((Unit×Ta0)×((Int×(Int×(Int×Unit)))×Ta90))):=q106r_L0 x.1.2.2.2.1 x.2.1 x.2.2.1.1 x.2.2.1.2.1 x.2.2.1.2.2.1 x.2.2.1.2.2.2.1 x.2.2.2.1.1 x.2.2.2.1.2.1 x.2.2.2.1.2.2.1 x.2.2.2.1.2.2.2.1
noncomputable def a106r:Nat→Option LoopAnn:=fun c=>bif Nat.beq c 0 then some (.fix h106r_L0 e106r_L0 s106r_L0) else none
noncomputable def g106r (x0:(Int×(Int×(Int×Unit)))):Option (Ta59×Unit) :=
bif (!(f105 x0)) then some (((((0:Int),((0:Int),((0:Int),()))),((nilL Ty35),())),()),()) else (fixO s106r_L0 (((),((),((),((0:Int),())))),(x0,(((0:Int),((0:Int),((0:Int),((nilL Ty35),())))),((x0.1,(x0.2.1,(x0.2.2.1,((nilL Ty35),())))),()))))).bind fun d2=>match d2 with | .inl y1=>some ((((y1.2.2.1.1,(y1.2.2.1.2.1,(y1.2.2.1.2.2.1,()))),y1.2.2.2.2),()),()) | .inr e=>nomatch e
noncomputable def c106r:Ctr:={ ins:=[.v Ty61],out:=[Ty99],F:=fun x=>g106r x.1,fr:=1 }
noncomputable def l106r:List (Nat×Code):=loopsIn (Try.f106.body.getD .skip) 0
theorem w106r_L0:LW t106r a106r l106r 0 0 h106r_L0 e106r_L0 s106r_L0:=fun x=>by kernel_rfl
theorem o106r:Holds Try.prog 106 c106r:=fh t106r a106r Try.func106 [(0,lg l106r 0)] ⟨fun x d h=>(w106r_L0 x).trans h,trivial⟩ (tc o105 tn)
noncomputable def t132r:Tbl:=[]
abbrev h132r_L2:Shape:={ slots:=[(2,.v .bool),(3,.bx 3 0),(6,.bx 6 0),(10,.v (.int .i64)),(11,.v (.int .i64)),(12,.bx 12 0),(13,.v .bool),(14,.v .bool),(15,.v (.int .i64)),(16,.v Ty35),(17,.bx 17 0),(18,.ms 64),(19,.v (.int .i64))],boxes:=[(3,.typ Ty99),(6,.cells [.v (.int .i64),.v (.int .i64),.v (.int .i64),.ms 60387]),(12,.cells [.v (.int .i64),.v (.int .i64),.v (.int .i64),.ms 60771]),(17,.typ Ty26),(64,.row Ty26),(60387,.row Ty35),(60771,.row Ty35)] }
abbrev e132r_L2:List (XT×Shape):=[(.exit 2,{ slots:=[(2,.v .bool),(3,.bx 3 0),(6,.bx 6 0),(10,.v (.int .i64)),(11,.v (.int .i64)),(12,.bx 12 0),(13,.v .bool),(14,.v .bool),(15,.v (.int .i64)),(17,.bx 17 0),(18,.ms 64)],boxes:=[(3,.typ Ty99),(6,.cells [.v (.int .i64),.v (.int .i64),.v (.int .i64),.ms 60387]),(12,.cells [.v (.int .i64),.v (.int .i64),.v (.int .i64),.ms 60771]),(17,.typ Ty26),(64,.row Ty26),(60387,.row Ty35),(60771,.row Ty35)] })]
noncomputable def q132r_L2 (t2:Bool) (t10:Int) (t11:Int) (t13:Bool) (t14:Bool) (t15:Int) (t16:(L (Int×(Bool×Unit)))) (t19:Int) (b3:Ta53) (b6_0:Int) (b6_1:Int) (b6_2:Int) (b12_0:Int) (b12_1:Int) (b12_2:Int) (b17:(Int×(Bool×Unit))) (r64:(L (Int×(Bool×Unit)))) (r60387:Ta5) (r60771:Ta5):Option (((Bool×(Unit×(Unit×(Int×(Int×(Unit×(Bool×(Bool×(Int×((L (Int×(Bool×Unit)))×Ta0))))))))))×Ta126)⊕(((Bool×(Unit×(Unit×(Int×(Int×(Unit×(Bool×(Bool×Ta1))))))))×Ta126)⊕Empty)) :=
bif (decide (t19 < (t16.len:Int))) then bif (decide (0≤t19)&&decide (t19 < (t16.len:Int))) then bif ((L.get t16 t19.toNat).1 == t11) then bif t2 then some (.inl ((t2,((),((),(t10,(t11,((),(true,(t14,(t15,(t16,((),((),((wI (t19 + (1:Int))),()))))))))))))),(b3,((b6_0,(b6_1,(b6_2,((),())))),((b12_0,(b12_1,(b12_2,((),())))),((b17.1,(true,())),(r64,(r60387,(r60771,()))))))))) else bif (decide (0≤t19)&&decide (t19 < (t16.len:Int))) then some (.inl ((t2,((),((),(t10,(t11,((),(true,(t14,(t15,(t16,((),((),((wI (t19 + (1:Int))),()))))))))))))),(b3,((b6_0,(b6_1,(b6_2,((),())))),((b12_0,(b12_1,(b12_2,((),())))),((b17.1,(L.get t16 t19.toNat).2),(r64,(r60387,(r60771,()))))))))) else none else bif (decide (0≤t19)&&decide (t19 < (t16.len:Int))) then bif (decide (r64.len + (L.of (Ty.zero Ty26) [(L.get t16 t19.toNat)]).len≤most)) then some (.inl ((t2,((),((),(t10,(t11,((),(t13,(t14,(t15,(t16,((),((),((wI (t19 + (1:Int))),()))))))))))))),(b3,((b6_0,(b6_1,(b6_2,((),())))),((b12_0,(b12_1,(b12_2,((),())))),(b17,((L.app r64 (L.of (Ty.zero Ty26) [(L.get t16 t19.toNat)])),(r60387,(r60771,()))))))))) else none else none else none else some (.inr (.inl ((t2,((),((),(t10,(t11,((),(t13,(t14,(t15,((),((),()))))))))))),(b3,((b6_0,(b6_1,(b6_2,((),())))),((b12_0,(b12_1,(b12_2,((),())))),(b17,(r64,(r60387,(r60771,()))))))))))
noncomputable def s132r_L2 (x:((Bool×(Unit×(Unit×(Int×(Int×(Unit×(Bool×(Bool×(Int×((L (Int×(Bool×Unit)))×Ta0))))))))))×Ta126)):=q132r_L2 x.1.1 x.1.2.2.2.1 x.1.2.2.2.2.1 x.1.2.2.2.2.2.2.1 x.1.2.2.2.2.2.2.2.1 x.1.2.2.2.2.2.2.2.2.1 x.1.2.2.2.2.2.2.2.2.2.1 x.1.2.2.2.2.2.2.2.2.2.2.2.2.1 x.2.1 x.2.2.1.1 x.2.2.1.2.1 x.2.2.1.2.2.1 x.2.2.2.1.1 x.2.2.2.1.2.1 x.2.2.2.1.2.2.1 x.2.2.2.2.1 x.2.2.2.2.2.1 x.2.2.2.2.2.2.1 x.2.2.2.2.2.2.2.1
abbrev h132r_L0:Shape:={ slots:=[(2,.v .bool),(3,.bx 3 0),(6,.bx 6 0),(10,.v (.int .i64)),(11,.v (.int .i64)),(12,.bx 12 0),(13,.v .bool),(14,.v .bool),(15,.v (.int .i64))],boxes:=[(3,.typ Ty99),(6,.cells [.v (.int .i64),.v (.int .i64),.v (.int .i64),.row Ty35 60387]),(12,.cells [.v (.int .i64),.v (.int .i64),.v (.int .i64),.row Ty35 60771])] }
abbrev e132r_L0:List (XT×Shape):=[(.exit 0,{ slots:=[(6,.bx 6 0),(12,.bx 12 0),(13,.v .bool),(14,.v .bool)],boxes:=[(6,.cells [.v (.int .i64),.v (.int .i64),.v (.int .i64),.ms 60387]),(12,.cells [.v (.int .i64),.v (.int .i64),.v (.int .i64),.ms 60771]),(60387,.row Ty35),(60771,.row Ty35)] })]
noncomputable def q132r_L0 (t2:Bool) (t10:Int) (t11:Int) (t13:Bool) (t14:Bool) (t15:Int) (b3:Ta53) (b6_0:Int) (b6_1:Int) (b6_2:Int) (b6_3:Ta5) (b12_0:Int) (b12_1:Int) (b12_2:Int) (b12_3:Ta5):Option (((Bool×(Unit×(Unit×(Int×(Int×(Unit×(Bool×(Bool×(Int×Unit)))))))))×(Ta53×Ta90))⊕(((Unit×(Unit×(Bool×(Bool×Unit))))×(Ta9×(Ta9×Ta57)))⊕Empty)) :=
bif (decide (t15 < (b3.2.1.len:Int))) then bif (decide (0≤t15)&&decide (t15 < (b3.2.1.len:Int))) then bif (t15 != t10) then bif (decide ((L.of (Ty.zero Ty26) []).len + (L.get b3.2.1 t15.toNat).len≤most)) then bif (decide (b12_3.len + (L.of (Ty.zero Ty35) [(L.app (L.of (Ty.zero Ty26) []) (L.get b3.2.1 t15.toNat))]).len≤most)) then some (.inl ((t2,((),((),(t10,(t11,((),(t13,(t14,((wI (t15 + (1:Int))),()))))))))),(b3,((b6_0,(b6_1,(b6_2,(b6_3,())))),((b12_0,(b12_1,(b12_2,((L.app b12_3 (L.of (Ty.zero Ty35) [(L.app (L.of (Ty.zero Ty26) []) (L.get b3.2.1 t15.toNat))])),())))),()))))) else none else none else ((fixO s132r_L2 ((t2,((),((),(t10,(t11,((),(t13,(t14,(t15,((L.get b3.2.1 t15.toNat),((),((),((0:Int),()))))))))))))),(b3,((b6_0,(b6_1,(b6_2,((),())))),((b12_0,(b12_1,(b12_2,((),())))),((t11,(t2,())),((L.of (Ty.zero Ty26) []),(b6_3,(b12_3,()))))))))).bind fun d2=>match d2 with | .inl y1=>bif ((y1.2.2.2.2.2.1.len:Int) == y1.2.1.1.2.1) then bif (decide (0≤(wI ((y1.2.2.2.2.2.1.len:Int) - (1:Int))))&&decide ((wI ((y1.2.2.2.2.2.1.len:Int) - (1:Int))) < (y1.2.2.2.2.2.1.len:Int))) then bif (decide (0≤(0:Int))&&(decide ((0:Int)≤(wI ((y1.2.2.2.2.2.1.len:Int) - (1:Int))))&&decide ((wI ((y1.2.2.2.2.2.1.len:Int) - (1:Int)))≤(y1.2.2.2.2.2.1.len:Int)))) then bif (decide ((L.of (Ty.zero Ty26) [y1.2.2.2.2.1]).len + (L.cut y1.2.2.2.2.2.1 (0:Int).toNat (wI ((y1.2.2.2.2.2.1.len:Int) - (1:Int))).toNat).len≤most)) then bif (decide (y1.2.2.2.2.2.2.2.1.len + (L.of (Ty.zero Ty35) [(L.app (L.of (Ty.zero Ty26) [y1.2.2.2.2.1]) (L.cut y1.2.2.2.2.2.1 (0:Int).toNat (wI ((y1.2.2.2.2.2.1.len:Int) - (1:Int))).toNat))]).len≤most)) then some (.inl ((y1.1.1,((),((),(y1.1.2.2.2.1,(y1.1.2.2.2.2.1,((),(y1.1.2.2.2.2.2.2.1,((L.get y1.2.2.2.2.2.1 (wI ((y1.2.2.2.2.2.1.len:Int) - (1:Int))).toNat).2.1,((wI (y1.1.2.2.2.2.2.2.2.2.1 + (1:Int))),()))))))))),(y1.2.1,((y1.2.2.1.1,(y1.2.2.1.2.1,(y1.2.2.1.2.2.1,(y1.2.2.2.2.2.2.1,())))),((y1.2.2.2.1.1,(y1.2.2.2.1.2.1,(y1.2.2.2.1.2.2.1,((L.app y1.2.2.2.2.2.2.2.1 (L.of (Ty.zero Ty35) [(L.app (L.of (Ty.zero Ty26) [y1.2.2.2.2.1]) (L.cut y1.2.2.2.2.2.1 (0:Int).toNat (wI ((y1.2.2.2.2.2.1.len:Int) - (1:Int))).toNat))])),())))),()))))) else none else none else none else none else bif (decide ((L.of (Ty.zero Ty26) [y1.2.2.2.2.1]).len + y1.2.2.2.2.2.1.len≤most)) then bif (decide (y1.2.2.2.2.2.2.2.1.len + (L.of (Ty.zero Ty35) [(L.app (L.of (Ty.zero Ty26) [y1.2.2.2.2.1]) y1.2.2.2.2.2.1)]).len≤most)) then some (.inl ((y1.1.1,((),((),(y1.1.2.2.2.1,(y1.1.2.2.2.2.1,((),(y1.1.2.2.2.2.2.2.1,(y1.1.2.2.2.2.2.2.2.1,((wI (y1.1.2.2.2.2.2.2.2.2.1 + (1:Int))),()))))))))),(y1.2.1,((y1.2.2.1.1,(y1.2.2.1.2.1,(y1.2.2.1.2.2.1,(y1.2.2.2.2.2.2.1,())))),((y1.2.2.2.1.1,(y1.2.2.2.1.2.1,(y1.2.2.2.1.2.2.1,((L.app y1.2.2.2.2.2.2.2.1 (L.of (Ty.zero Ty35) [(L.app (L.of (Ty.zero Ty26) [y1.2.2.2.2.1]) y1.2.2.2.2.2.1)])),())))),()))))) else none else none | .inr e=>nomatch e) else none else some (.inr (.inl (((),((),(t13,(t14,())))),((b6_0,(b6_1,(b6_2,((),())))),((b12_0,(b12_1,(b12_2,((),())))),(b6_3,(b12_3,())))))))
noncomputable def s132r_L0 (x:((Bool×(Unit×(Unit×(Int×(Int×(Unit×(Bool×(Bool×(Int×Unit)))))))))×(Ta53×Ta90))):=q132r_L0 x.1.1 x.1.2.2.2.1 x.1.2.2.2.2.1 x.1.2.2.2.2.2.2.1 x.1.2.2.2.2.2.2.2.1 x.1.2.2.2.2.2.2.2.2.1 x.2.1 x.2.2.1.1 x.2.2.1.2.1 x.2.2.1.2.2.1 x.2.2.1.2.2.2.1 x.2.2.2.1.1 x.2.2.2.1.2.1 x.2.2.2.1.2.2.1 x.2.2.2.1.2.2.2.1
noncomputable def a132r:Nat→Option LoopAnn:=fun c=>bif Nat.beq c 2 then some (.fix h132r_L2 e132r_L2 s132r_L2) else bif Nat.beq c 0 then some (.fix h132r_L0 e132r_L0 s132r_L0) else none
noncomputable def g132r (x0:Ta53) (x1:Int) (x2:Bool):Option ((Ta53×(Bool×(Bool×Unit)))×Unit) :=
bif (!decide (x0.1.2.2.1 = 0)) then bif (!decide (x0.1.1 = 0)) then bif (!decide (x0.1.1 = 0)) then ((fixO s132r_L0 ((x2,((),((),((Int.tmod (wI (Int.tdiv x1 x0.1.2.2.1)) x0.1.1),((wI (Int.tdiv (wI (Int.tdiv x1 x0.1.2.2.1)) x0.1.1)),((),(false,(false,((0:Int),()))))))))),(x0,(((0:Int),((0:Int),((0:Int),((nilL Ty35),())))),((x0.1.1,(x0.1.2.1,(x0.1.2.2.1,((nilL Ty35),())))),()))))).bind fun d4=>match d4 with | .inl y3=>some ((((y3.2.2.1.1,(y3.2.2.1.2.1,(y3.2.2.1.2.2.1,()))),y3.2.2.2.2),y3.1.2.2.1,y3.1.2.2.2.1,()),()) | .inr e=>nomatch e) else none else none else none
noncomputable def c132r:Ctr:={ ins:=[.v Ty99,.v (.int .i64),.v .bool],out:=[Ty99,.bool,.bool],F:=fun x=>g132r x.1 x.2.1 x.2.2.1,fr:=1 }
noncomputable def l132r:List (Nat×Code):=loopsIn (Try.f132.body.getD .skip) 0
theorem w132r_L2:LW t132r a132r l132r 1 2 h132r_L2 e132r_L2 s132r_L2:=fun x=>by kernel_rfl
theorem w132r_L0:LW t132r a132r l132r 0 0 h132r_L0 e132r_L0 s132r_L0:=fun x=>by kernel_rfl
theorem o132r:Holds Try.prog 132 c132r:=fh t132r a132r Try.func132 [(0,lg l132r 0),(2,lg l132r 1)] ⟨fun x d h=>(w132r_L0 x).trans h,fun x d h=>(w132r_L2 x).trans h,trivial⟩ tn
noncomputable def t96d:Tbl:=[(106,[],c106r),(84,[],c84d),(86,[],c86d),(132,[],c132r)]
abbrev h96d_L0:Shape:={ slots:=[(0,.bx 100000000 0),(2,.v (.int .i64)),(6,.bx 6 0),(7,.bx 7 0),(8,.v (.int .i64))],boxes:=[(100000000,.typ Ty65),(6,.cells [.v (.int .i64),.v (.int .i64),.v (.int .i64),.row Ty35 60387]),(7,.cells [.v (.int .i64),.v (.int .i64),.v (.int .i64),.row Ty35 60451])] }
abbrev e96d_L0:List (XT×Shape):=[(.exit 0,{ slots:=[(6,.bx 6 0),(7,.bx 7 0)],boxes:=[(6,.cells [.v (.int .i64),.v (.int .i64),.v (.int .i64),.ms 60387]),(7,.cells [.v (.int .i64),.v (.int .i64),.v (.int .i64),.ms 60451]),(100000000,.typ Ty65),(60387,.row Ty35),(60451,.row Ty35)] })]
noncomputable def q96d_L0 (t2:Int) (t8:Int) (b100000000:Ta6) (b6_0:Int) (b6_1:Int) (b6_2:Int) (b6_3:Ta5) (b7_0:Int) (b7_1:Int) (b7_2:Int) (b7_3:Ta5):Option (Ta111⊕(((Unit×(Unit×Unit))×(Ta9×(Ta9×(Ta6×Ta57))))⊕Empty)) :=
bif (decide (t8 < t2)) then bif (decide ((b7_3.len:Int) > (0:Int))) then (g84d b100000000 (600:Int)).bind fun y2=>(g86d y2.2.1 (2:Int)).bind fun y3=>(g132r ((b7_0,(b7_1,(b7_2,()))),(b7_3,())) y2.1.1 y3.1.1).bind fun y4=>some (.inl (((),(t2,((),((),((wI (t8 + (1:Int))),()))))),(y3.2.1,((b6_0,(b6_1,(b6_2,(b6_3,())))),((y4.1.1.1.1,(y4.1.1.1.2.1,(y4.1.1.1.2.2.1,y4.1.1.2))),()))))) else some (.inr (.inl (((),((),())),((b6_0,(b6_1,(b6_2,((),())))),((b7_0,(b7_1,(b7_2,((),())))),(b100000000,(b6_3,(b7_3,())))))))) else some (.inr (.inl (((),((),())),((b6_0,(b6_1,(b6_2,((),())))),((b7_0,(b7_1,(b7_2,((),())))),(b100000000,(b6_3,(b7_3,()))))))))
noncomputable def s96d_L0 (x:Ta111):=q96d_L0 x.1.2.1 x.1.2.2.2.2.1 x.2.1 x.2.2.1.1 x.2.2.1.2.1 x.2.2.1.2.2.1 x.2.2.1.2.2.2.1 x.2.2.2.1.1 x.2.2.2.1.2.1 x.2.2.2.1.2.2.1 x.2.2.2.1.2.2.2.1
noncomputable def a96d:Nat→Option LoopAnn:=fun c=>bif Nat.beq c 0 then some (.fix h96d_L0 e96d_L0 s96d_L0) else none
noncomputable def g96d (x0:Ta6) (x1:(Int×(Int×(Int×Unit)))) (x2:Int):Option Ta84 :=
(g106r x1).bind fun y1=>(fixO s96d_L0 (((),(x2,((),((),((0:Int),()))))),(x0,(((0:Int),((0:Int),((0:Int),((nilL Ty35),())))),((y1.1.1.1.1,(y1.1.1.1.2.1,(y1.1.1.1.2.2.1,y1.1.1.2))),()))))).bind fun d6=>match d6 with | .inl y5=>some ((((y5.2.2.1.1,(y5.2.2.1.2.1,(y5.2.2.1.2.2.1,()))),y5.2.2.2.2.2),()),(y5.2.2.2.1,())) | .inr e=>nomatch e
noncomputable def c96d:Ctr:={ ins:=[.pd Ty65,.v Ty61,.v (.int .i64)],out:=[Ty99],F:=fun x=>g96d x.1 x.2.1 x.2.2.1 }
noncomputable def l96d:List (Nat×Code):=loopsIn (Try.f96.body.getD .skip) 0
theorem w96d_L0:LW t96d a96d l96d 0 0 h96d_L0 e96d_L0 s96d_L0:=fun x=>by kernel_rfl
theorem o96d:Holds Try.prog 96 c96d:=fh t96d a96d Try.func96 [(0,lg l96d 0)] ⟨fun x d h=>(w96d_L0 x).trans h,trivial⟩ (tc o106r (tc o84d (tc o86d (tc o132r tn))))
noncomputable def t101:Tbl:=[(60,[],c60),(105,[],c105),(138,[],c138),(115,[],c115)]
noncomputable def g101 (x0:Ta132):Option ((Bool×Unit)×Unit) :=
bif (!(f60 x0.1 (64:Int) (2048:Int))) then some ((false,()),()) else bif ((Int.tmod x0.1 (4:Int)) != (0:Int)) then some ((false,()),()) else bif (!(f105 x0.2.1)) then some ((false,()),()) else bif (!(f60 x0.2.2.1 (1:Int) (8:Int))) then some ((false,()),()) else bif (!(f138 x0.2.2.2.1)) then some ((false,()),()) else bif (f60 x0.2.2.2.2.1 (1:Int) (5000:Int)) then bif (f60 x0.2.2.2.2.2.1 (1:Int) (5000:Int)) then bif (f60 x0.2.2.2.2.2.2.1 (1:Int) (5000:Int)) then (g115 x0.2.2.2.1).bind fun y1=>some (((decide (x0.2.2.2.2.2.1 ≥ y1.1.1)),()),()) else some ((false,()),()) else some ((false,()),()) else some ((false,()),())
noncomputable def c101:Ctr:={ ins:=[.v Ty150],out:=[.bool],F:=fun x=>g101 x.1 }
theorem o101:Holds Try.prog 101 c101:=f0 t101 Try.func101 (tc o60 (tc o105 (tc o138 (tc o115 tn))))
noncomputable def t174:Tbl:=[(60,[],c60)]
abbrev h174_L0:Shape:={ slots:=[(0,.v .str),(3,.v (.int .i64))],boxes:=[] }
abbrev e174_L0:List (XT×Shape):=[(.ret,{ slots:=[(2,.v .bool)],boxes:=[] }),(.exit 0,{ slots:=[(0,.v .str)],boxes:=[] })]
noncomputable def q174_L0 (t0:ByteArray) (t3:Int):Option (((ByteArray×(Int×Unit))×Unit)⊕(((Bool×Unit)×Unit)⊕(((ByteArray×Unit)×Unit)⊕Empty))) :=
bif (decide (t3 < (t0.size:Int))) then bif (decide (t3 < (13:Int))) then bif (decide (0≤t3)&&decide (t3 < t0.size)) then bif (!(f60 (wI ((bt t0 t3))) (97:Int) (122:Int))) then some (.inr (.inl ((false,()),()))) else some (.inl ((t0,((wI (t3 + (1:Int))),())),())) else none else some (.inr (.inr (.inl ((t0,()),())))) else some (.inr (.inr (.inl ((t0,()),()))))
noncomputable def s174_L0 (x:((ByteArray×(Int×Unit))×Unit)):=q174_L0 x.1.1 x.1.2.1
noncomputable def a174:Nat→Option LoopAnn:=fun c=>bif Nat.beq c 0 then some (.fix h174_L0 e174_L0 s174_L0) else none
noncomputable def g174 (x0:ByteArray):Option ((Bool×Unit)×Unit) :=
(fixO s174_L0 ((x0,((0:Int),())),())).bind fun d2=>match d2 with | .inl y1=>some ((y1.1.1,()),()) | .inr (.inl y1)=>some (((f60 (y1.1.1.size:Int) (1:Int) (12:Int)),()),()) | .inr (.inr e)=>nomatch e
noncomputable def c174:Ctr:={ ins:=[.v .str],out:=[.bool],F:=fun x=>g174 x.1 }
noncomputable def l174:List (Nat×Code):=loopsIn (Try.f174.body.getD .skip) 0
theorem w174_L0:LW t174 a174 l174 0 0 h174_L0 e174_L0 s174_L0:=fun x=>by kernel_rfl
theorem o174:Holds Try.prog 174 c174:=fh t174 a174 Try.func174 [(0,lg l174 0)] ⟨fun x d h=>(w174_L0 x).trans h,trivial⟩ (tc o60 tn)
noncomputable def t161:Tbl:=[(174,[],c174)]
noncomputable def g161 (x0:ByteArray):Option ((Bool×Unit)×Unit) :=
bif (decide ((x0.size:Int)≤(8:Int))) then (g174 x0).bind fun y1=>some ((y1.1.1,()),()) else some ((false,()),())
noncomputable def c161:Ctr:={ ins:=[.v .str],out:=[.bool],F:=fun x=>g161 x.1 }
theorem o161:Holds Try.prog 161 c161:=f0 t161 Try.func161 (tc o174 tn)
noncomputable def t162:Tbl:=[(60,[],c60)]
noncomputable def g162 (x0:(Int×(Int×Unit))):Option ((Bool×Unit)×Unit) :=
bif (x0.1 == (1:Int)) then some (((f60 x0.2.1 (0:Int) (100:Int)),()),()) else bif (x0.1 == (0:Int)) then some (((x0.2.1 == (0:Int)),()),()) else bif (x0.1 == (2:Int)) then some (((x0.2.1 == (0:Int)),()),()) else some ((false,()),())
noncomputable def f162 (x0:(Int×(Int×Unit))):Bool :=
bif (x0.1 == (1:Int)) then (f60 x0.2.1 (0:Int) (100:Int)) else bif (x0.1 == (0:Int)) then (x0.2.1 == (0:Int)) else bif (x0.1 == (2:Int)) then (x0.2.1 == (0:Int)) else false
theorem n162 (x0:(Int×(Int×Unit))):g162 x0 = some ((f162 x0,()),()):=by simp only [g162,f162,pull1]
noncomputable def c162:Ctr:={ ins:=[.v Ty34],out:=[.bool],F:=fun x=>some ((f162 x.1,()),()) }
theorem o162:Holds Try.prog 162 c162:=f0T t162 (fun x=>g162 x.1) Try.func162 (tc o60 tn) (fun x=>n162 x.1)
noncomputable def t163:Tbl:=[(60,[],c60)]
noncomputable def g163 (x0:(Int×(Int×(Int×Unit)))):Option ((Bool×Unit)×Unit) :=
bif (f60 x0.1 (0:Int) (2048:Int)) then bif (f60 x0.2.1 (4:Int) (2048:Int)) then bif ((Int.tmod x0.1 (4:Int)) == (0:Int)) then bif ((Int.tmod x0.2.1 (4:Int)) == (0:Int)) then bif (decide ((wI (x0.1 + x0.2.1))≤(2048:Int))) then some (((f60 x0.2.2.1 (1:Int) (7:Int)),()),()) else some ((false,()),()) else some ((false,()),()) else some ((false,()),()) else some ((false,()),()) else some ((false,()),())
noncomputable def f163 (x0:(Int×(Int×(Int×Unit)))):Bool :=
bif (f60 x0.1 (0:Int) (2048:Int)) then bif (f60 x0.2.1 (4:Int) (2048:Int)) then bif ((Int.tmod x0.1 (4:Int)) == (0:Int)) then bif ((Int.tmod x0.2.1 (4:Int)) == (0:Int)) then bif (decide ((wI (x0.1 + x0.2.1))≤(2048:Int))) then (f60 x0.2.2.1 (1:Int) (7:Int)) else false else false else false else false else false
theorem n163 (x0:(Int×(Int×(Int×Unit)))):g163 x0 = some ((f163 x0,()),()):=by simp only [g163,f163,pull1]
noncomputable def c163:Ctr:={ ins:=[.v Ty61],out:=[.bool],F:=fun x=>some ((f163 x.1,()),()) }
theorem o163:Holds Try.prog 163 c163:=f0T t163 (fun x=>g163 x.1) Try.func163 (tc o60 tn) (fun x=>n163 x.1)
noncomputable def t164:Tbl:=[]
noncomputable def g164 (x0:(Int×(Int×(Int×Unit)))) (x1:Int):Option ((Bool×Unit)×Unit) :=
bif (decide (x1 ≥ x0.1)) then some (((decide (x1 < (wI (x0.1 + x0.2.1)))),()),()) else some ((false,()),())
noncomputable def f164 (x0:(Int×(Int×(Int×Unit)))) (x1:Int):Bool :=
bif (decide (x1 ≥ x0.1)) then (decide (x1 < (wI (x0.1 + x0.2.1)))) else false
theorem n164 (x0:(Int×(Int×(Int×Unit)))) (x1:Int):g164 x0 x1 = some ((f164 x0 x1,()),()):=by simp only [g164,f164,pull1]
noncomputable def c164:Ctr:={ ins:=[.v Ty61,.v (.int .i64)],out:=[.bool],F:=fun x=>some ((f164 x.1 x.2.1,()),()) }
theorem o164:Holds Try.prog 164 c164:=f0T t164 (fun x=>g164 x.1 x.2.1) Try.func164 tn (fun x=>n164 x.1 x.2.1)
noncomputable def t139:Tbl:=[(161,[],c161),(162,[],c162),(60,[],c60),(163,[],c163),(164,[],c164)]
abbrev h139_L0:Shape:={ slots:=[(1,.v (.int .i64)),(2,.bx 2 0),(5,.v .bool),(6,.v (.int .i64))],boxes:=[(2,.typ Ty107)] }
abbrev e139_L0:List (XT×Shape):=[(.ret,{ slots:=[(4,.v .bool)],boxes:=[] }),(.exit 0,{ slots:=[(2,.bx 2 0),(5,.v .bool)],boxes:=[(2,.typ Ty107)] })]
noncomputable def q139_L0 (t1:Int) (t5:Bool) (t6:Int) (b2:Ta66):Option (((Int×(Unit×(Bool×(Int×Unit))))×Ta70)⊕(((Bool×Unit)×Unit)⊕(((Unit×(Bool×Unit))×Ta70)⊕Empty))) :=
bif (decide (t6 < (b2.2.2.2.1.len:Int))) then bif (decide (0≤t6)&&decide (t6 < (b2.2.2.2.1.len:Int))) then bif (!(f163 (L.get b2.2.2.2.1 t6.toNat))) then some (.inr (.inl ((false,()),()))) else bif (decide ((wI ((L.get b2.2.2.2.1 t6.toNat).1 + (L.get b2.2.2.2.1 t6.toNat).2.1)) > t1)) then some (.inr (.inl ((false,()),()))) else bif (f164 (L.get b2.2.2.2.1 t6.toNat) b2.2.1) then bif ((wI (Int.tdiv (L.get b2.2.2.2.1 t6.toNat).2.2.1 (4:Int))) == (1:Int)) then some (.inl ((t1,((),(true,((wI (t6 + (1:Int))),())))),(b2,()))) else some (.inl ((t1,((),(t5,((wI (t6 + (1:Int))),())))),(b2,()))) else some (.inl ((t1,((),(t5,((wI (t6 + (1:Int))),())))),(b2,()))) else none else some (.inr (.inr (.inl (((),(t5,())),(b2,())))))
noncomputable def s139_L0 (x:((Int×(Unit×(Bool×(Int×Unit))))×Ta70)):=q139_L0 x.1.1 x.1.2.2.1 x.1.2.2.2.1 x.2.1
noncomputable def a139:Nat→Option LoopAnn:=fun c=>bif Nat.beq c 0 then some (.fix h139_L0 e139_L0 s139_L0) else none
noncomputable def g139 (x0:Ta66) (x1:Int):Option ((Bool×Unit)×Unit) :=
(g161 x0.1).bind fun y1=>bif (!y1.1.1) then some ((false,()),()) else bif (!(f162 x0.2.2.1)) then some ((false,()),()) else bif (!(f60 (x0.2.2.2.1.len:Int) (1:Int) (4:Int))) then some ((false,()),()) else (fixO s139_L0 ((x1,((),(false,((0:Int),())))),(x0,()))).bind fun d3=>match d3 with | .inl y2=>some ((y2.1.1,()),()) | .inr (.inl y2)=>bif y2.1.2.1 then some ((((Int.tmod y2.2.1.2.1 (4:Int)) == (0:Int)),()),()) else some ((false,()),()) | .inr (.inr e)=>nomatch e
noncomputable def c139:Ctr:={ ins:=[.v Ty107,.v (.int .i64)],out:=[.bool],F:=fun x=>g139 x.1 x.2.1 }
noncomputable def l139:List (Nat×Code):=loopsIn (Try.f139.body.getD .skip) 0
theorem w139_L0:LW t139 a139 l139 0 0 h139_L0 e139_L0 s139_L0:=fun x=>by kernel_rfl
theorem o139:Holds Try.prog 139 c139:=fh t139 a139 Try.func139 [(0,lg l139 0)] ⟨fun x d h=>(w139_L0 x).trans h,trivial⟩ (tc o161 (tc o162 (tc o60 (tc o163 (tc o164 tn)))))
noncomputable def t140r:Tbl:=[]
abbrev h140r_L0:Shape:={ slots:=[(0,.v Ty109),(3,.ms 5),(4,.v (.int .i64))],boxes:=[(5,.row Ty61)] }
abbrev e140r_L0:List (XT×Shape):=[(.exit 0,{ slots:=[(3,.ms 5)],boxes:=[(5,.row Ty61)] })]
noncomputable def q140r_L0 (t0:Ta68) (t4:Int) (r5:Ta7):Option (((Ta68×(Unit×(Int×Unit)))×Ta18)⊕(((Unit×Unit)×Ta18)⊕Empty)) :=
bif (decide (t4 < (t0.len:Int))) then bif (decide (0≤t4)&&decide (t4 < (t0.len:Int))) then bif (decide (r5.len + (L.get t0 t4.toNat).2.2.2.1.len≤most)) then some (.inl ((t0,((),((wI (t4 + (1:Int))),()))),((L.app r5 (L.get t0 t4.toNat).2.2.2.1),()))) else none else none else some (.inr (.inl (((),()),(r5,()))))
noncomputable def s140r_L0 (x:((Ta68×(Unit×(Int×Unit)))×Ta18)):=q140r_L0 x.1.1 x.1.2.2.1 x.2.1
noncomputable def a140r:Nat→Option LoopAnn:=fun c=>bif Nat.beq c 0 then some (.fix h140r_L0 e140r_L0 s140r_L0) else none
noncomputable def g140r (x0:Ta68):Option (Ta18×Unit) :=
(fixO s140r_L0 ((x0,((),((0:Int),()))),((L.of (Ty.zero Ty61) []),()))).bind fun d2=>match d2 with | .inl y1=>some ((y1.2.1,()),()) | .inr e=>nomatch e
noncomputable def c140r:Ctr:={ ins:=[.v Ty109],out:=[Ty67],F:=fun x=>g140r x.1,fr:=1 }
noncomputable def l140r:List (Nat×Code):=loopsIn (Try.f140.body.getD .skip) 0
theorem w140r_L0:LW t140r a140r l140r 0 0 h140r_L0 e140r_L0 s140r_L0:=fun x=>by kernel_rfl
theorem o140r:Holds Try.prog 140 c140r:=fh t140r a140r Try.func140 [(0,lg l140r 0)] ⟨fun x d h=>(w140r_L0 x).trans h,trivial⟩ tn
noncomputable def t102:Tbl:=[(60,[],c60),(139,[],c139),(140,[],c140r)]
abbrev h102_L2:Shape:={ slots:=[(1,.bx 1 0),(3,.v (.int .i64)),(4,.v (.int .i64))],boxes:=[(1,.typ Ty150)] }
abbrev e102_L2:List (XT×Shape):=[(.ret,{ slots:=[(2,.v .bool)],boxes:=[] }),(.exit 2,{ slots:=[(1,.bx 1 0),(3,.v (.int .i64))],boxes:=[(1,.typ Ty150)] })]
noncomputable def q102_L2 (t3:Int) (t4:Int) (b1:Ta132):Option (Ta136⊕(((Bool×Unit)×Unit)⊕(Ta135⊕Empty))) :=
bif (decide (t4 < t3)) then bif (decide (0≤t4)&&decide (t4 < (b1.2.2.2.2.2.2.2.1.len:Int))) then bif (decide (0≤t3)&&decide (t3 < (b1.2.2.2.2.2.2.2.1.len:Int))) then bif (strEq (L.get b1.2.2.2.2.2.2.2.1 t4.toNat).1 (L.get b1.2.2.2.2.2.2.2.1 t3.toNat).1) then some (.inr (.inl ((false,()),()))) else some (.inl (((),(t3,((wI (t4 + (1:Int))),()))),(b1,()))) else none else none else some (.inr (.inr (.inl (((),(t3,())),(b1,())))))
noncomputable def s102_L2 (x:Ta136):=q102_L2 x.1.2.1 x.1.2.2.1 x.2.1
abbrev h102_L0:Shape:={ slots:=[(1,.bx 1 0),(3,.v (.int .i64))],boxes:=[(1,.typ Ty150)] }
abbrev e102_L0:List (XT×Shape):=[(.ret,{ slots:=[(2,.v .bool)],boxes:=[] }),(.exit 0,{ slots:=[(1,.bx 1 0)],boxes:=[(1,.typ Ty150)] })]
noncomputable def q102_L0 (t3:Int) (b1:Ta132):Option (Ta135⊕(((Bool×Unit)×Unit)⊕(Ta134⊕Empty))) :=
bif (decide (t3 < (b1.2.2.2.2.2.2.2.1.len:Int))) then bif (decide (0≤t3)&&decide (t3 < (b1.2.2.2.2.2.2.2.1.len:Int))) then (g139 (L.get b1.2.2.2.2.2.2.2.1 t3.toNat) b1.1).bind fun y1=>bif (!y1.1.1) then some (.inr (.inl ((false,()),()))) else ((fixO s102_L2 (((),(t3,((0:Int),()))),(b1,()))).bind fun d3=>match d3 with | .inl y2=>some (.inr (.inl y2)) | .inr (.inl y2)=>some (.inl (((),((wI (y2.1.2.1 + (1:Int))),())),y2.2)) | .inr (.inr e)=>nomatch e) else none else some (.inr (.inr (.inl (((),()),(b1,())))))
noncomputable def s102_L0 (x:Ta135):=q102_L0 x.1.2.1 x.2.1
abbrev h102_L6:Shape:={ slots:=[(5,.ms 1003136),(6,.v (.int .i64)),(7,.v (.int .i64))],boxes:=[(1003136,.row Ty61)] }
abbrev e102_L6:List (XT×Shape):=[(.ret,{ slots:=[(2,.v .bool)],boxes:=[] }),(.exit 6,{ slots:=[(5,.ms 1003136),(6,.v (.int .i64))],boxes:=[(1003136,.row Ty61)] })]
noncomputable def q102_L6 (t6:Int) (t7:Int) (r1003136:Ta7):Option (((Unit×(Int×(Int×Unit)))×Ta18)⊕(((Bool×Unit)×Unit)⊕(Ta50⊕Empty))) :=
bif (decide (t7 < t6)) then bif (decide (0≤t7)&&decide (t7 < (r1003136.len:Int))) then bif (decide (0≤t6)&&decide (t6 < (r1003136.len:Int))) then bif (decide (0≤t6)&&decide (t6 < (r1003136.len:Int))) then bif (decide ((L.get r1003136 t7.toNat).1 < (wI ((L.get r1003136 t6.toNat).1 + (L.get r1003136 t6.toNat).2.1)))) then bif (decide (0≤t6)&&decide (t6 < (r1003136.len:Int))) then bif (decide (0≤t7)&&decide (t7 < (r1003136.len:Int))) then bif (decide (0≤t7)&&decide (t7 < (r1003136.len:Int))) then bif (decide ((L.get r1003136 t6.toNat).1 < (wI ((L.get r1003136 t7.toNat).1 + (L.get r1003136 t7.toNat).2.1)))) then some (.inr (.inl ((false,()),()))) else some (.inl (((),(t6,((wI (t7 + (1:Int))),()))),(r1003136,()))) else none else none else none else some (.inl (((),(t6,((wI (t7 + (1:Int))),()))),(r1003136,()))) else none else none else none else some (.inr (.inr (.inl (((),(t6,())),(r1003136,())))))
noncomputable def s102_L6 (x:((Unit×(Int×(Int×Unit)))×Ta18)):=q102_L6 x.1.2.1 x.1.2.2.1 x.2.1
abbrev h102_L4:Shape:={ slots:=[(5,.ms 1003136),(6,.v (.int .i64))],boxes:=[(1003136,.row Ty61)] }
abbrev e102_L4:List (XT×Shape):=[(.ret,{ slots:=[(2,.v .bool)],boxes:=[] }),(.exit 4,{ slots:=[],boxes:=[] })]
noncomputable def q102_L4 (t6:Int) (r1003136:Ta7):Option (Ta50⊕(((Bool×Unit)×Unit)⊕((Unit×Unit)⊕Empty))) :=
bif (decide (t6 < (r1003136.len:Int))) then ((fixO s102_L6 (((),(t6,((0:Int),()))),(r1003136,()))).bind fun d7=>match d7 with | .inl y6=>some (.inr (.inl y6)) | .inr (.inl y6)=>some (.inl (((),((wI (y6.1.2.1 + (1:Int))),())),y6.2)) | .inr (.inr e)=>nomatch e) else some (.inr (.inr (.inl ((),()))))
noncomputable def s102_L4 (x:Ta50):=q102_L4 x.1.2.1 x.2.1
noncomputable def a102:Nat→Option LoopAnn:=fun c=>bif Nat.beq c 2 then some (.fix h102_L2 e102_L2 s102_L2) else bif Nat.beq c 0 then some (.fix h102_L0 e102_L0 s102_L0) else bif Nat.beq c 6 then some (.fix h102_L6 e102_L6 s102_L6) else bif Nat.beq c 4 then some (.fix h102_L4 e102_L4 s102_L4) else none
noncomputable def g102 (x0:Ta132):Option ((Bool×Unit)×Unit) :=
bif (!(f60 (x0.2.2.2.2.2.2.2.1.len:Int) (1:Int) (6:Int))) then some ((false,()),()) else (fixO s102_L0 (((),((0:Int),())),(x0,()))).bind fun d10=>match d10 with | .inl y4=>some ((y4.1.1,()),()) | .inr (.inl y4)=>(g140r y4.2.1.2.2.2.2.2.2.2.1).bind fun y5=>((fixO s102_L4 (((),((0:Int),())),y5.1)).bind fun d9=>match d9 with | .inl y8=>some ((y8.1.1,()),()) | .inr (.inl y8)=>some ((true,()),()) | .inr (.inr e)=>nomatch e) | .inr (.inr e)=>nomatch e
noncomputable def c102:Ctr:={ ins:=[.v Ty150],out:=[.bool],F:=fun x=>g102 x.1 }
noncomputable def l102:List (Nat×Code):=loopsIn (Try.f102.body.getD .skip) 0
theorem w102_L2:LW t102 a102 l102 1 2 h102_L2 e102_L2 s102_L2:=fun x=>by kernel_rfl
theorem w102_L0:LW t102 a102 l102 0 0 h102_L0 e102_L0 s102_L0:=fun x=>by kernel_rfl
theorem w102_L6:LW t102 a102 l102 3 6 h102_L6 e102_L6 s102_L6:=fun x=>by kernel_rfl
theorem w102_L4:LW t102 a102 l102 2 4 h102_L4 e102_L4 s102_L4:=fun x=>by kernel_rfl
theorem o102:Holds Try.prog 102 c102:=fh t102 a102 Try.func102 [(0,lg l102 0),(2,lg l102 1),(4,lg l102 2),(6,lg l102 3)] ⟨fun x d h=>(w102_L0 x).trans h,fun x d h=>(w102_L2 x).trans h,fun x d h=>(w102_L4 x).trans h,fun x d h=>(w102_L6 x).trans h,trivial⟩ (tc o60 (tc o139 (tc o140r tn)))
noncomputable def t103:Tbl:=[(60,[],c60),(141,[],c141),(116,[],c116)]
abbrev h103_L0:Shape:={ slots:=[(1,.bx 1 0),(3,.v (.int .i64))],boxes:=[(1,.typ Ty150)] }
abbrev e103_L0:List (XT×Shape):=[(.ret,{ slots:=[(2,.v .bool)],boxes:=[] }),(.exit 0,{ slots:=[(1,.bx 1 0)],boxes:=[(1,.typ Ty150)] })]
noncomputable def q103_L0 (t3:Int) (b1:Ta132):Option (Ta135⊕(((Bool×Unit)×Unit)⊕(Ta134⊕Empty))) :=
bif (decide (t3 < (b1.2.2.2.2.2.2.2.2.1.len:Int))) then bif (decide (0≤t3)&&decide (t3 < (b1.2.2.2.2.2.2.2.2.1.len:Int))) then bif (!(f60 (L.get b1.2.2.2.2.2.2.2.2.1 t3.toNat) (0:Int) (wI ((b1.2.2.2.2.2.2.2.1.len:Int) - (1:Int))))) then some (.inr (.inl ((false,()),()))) else some (.inl (((),((wI (t3 + (1:Int))),())),(b1,()))) else none else some (.inr (.inr (.inl (((),()),(b1,())))))
noncomputable def s103_L0 (x:Ta135):=q103_L0 x.1.2.1 x.2.1
abbrev h103_L2:Shape:={ slots:=[(1,.bx 1 0),(4,.v (.int .i64))],boxes:=[(1,.typ Ty150)] }
abbrev e103_L2:List (XT×Shape):=[(.ret,{ slots:=[(2,.v .bool)],boxes:=[] }),(.exit 2,{ slots:=[(1,.bx 1 0)],boxes:=[(1,.typ Ty150)] })]
noncomputable def q103_L2 (t4:Int) (b1:Ta132):Option (Ta135⊕(((Bool×Unit)×Unit)⊕(Ta134⊕Empty))) :=
bif (decide (t4 < (b1.2.2.2.2.2.2.2.2.2.1.len:Int))) then bif (decide (0≤t4)&&decide (t4 < (b1.2.2.2.2.2.2.2.2.2.1.len:Int))) then bif (!(f141 (L.get b1.2.2.2.2.2.2.2.2.2.1 t4.toNat))) then some (.inr (.inl ((false,()),()))) else bif (decide (0≤t4)&&decide (t4 < (b1.2.2.2.2.2.2.2.2.2.1.len:Int))) then bif (decide ((L.get b1.2.2.2.2.2.2.2.2.2.1 t4.toNat).2.1 ≥ (b1.2.2.2.2.2.2.2.1.len:Int))) then some (.inr (.inl ((false,()),()))) else bif (decide (0≤t4)&&decide (t4 < (b1.2.2.2.2.2.2.2.2.2.1.len:Int))) then bif (decide ((L.get b1.2.2.2.2.2.2.2.2.2.1 t4.toNat).2.2.1 ≥ (b1.2.2.2.2.2.2.2.1.len:Int))) then some (.inr (.inl ((false,()),()))) else some (.inl (((),((wI (t4 + (1:Int))),())),(b1,()))) else none else none else none else some (.inr (.inr (.inl (((),()),(b1,())))))
noncomputable def s103_L2 (x:Ta135):=q103_L2 x.1.2.1 x.2.1
noncomputable def a103:Nat→Option LoopAnn:=fun c=>bif Nat.beq c 0 then some (.fix h103_L0 e103_L0 s103_L0) else bif Nat.beq c 2 then some (.fix h103_L2 e103_L2 s103_L2) else none
noncomputable def g103 (x0:Ta132):Option ((Bool×Unit)×Unit) :=
bif (decide ((x0.2.2.2.2.2.2.2.2.1.len:Int) > (8:Int))) then some ((false,()),()) else bif (decide ((x0.2.2.2.2.2.2.2.2.2.1.len:Int) > (8:Int))) then some ((false,()),()) else (fixO s103_L0 (((),((0:Int),())),(x0,()))).bind fun d5=>match d5 with | .inl y1=>some ((y1.1.1,()),()) | .inr (.inl y1)=>((fixO s103_L2 (((),((0:Int),())),y1.2)).bind fun d4=>match d4 with | .inl y2=>some ((y2.1.1,()),()) | .inr (.inl y2)=>(g116 y2.2.1.2.2.2.1 y2.2.1.2.1 y2.2.1.2.2.2.2.2.2.2.2.2.1).bind fun y3=>some (((decide (y2.2.1.2.2.2.2.1 ≥ y3.1.1)),()),()) | .inr (.inr e)=>nomatch e) | .inr (.inr e)=>nomatch e
noncomputable def c103:Ctr:={ ins:=[.v Ty150],out:=[.bool],F:=fun x=>g103 x.1 }
noncomputable def l103:List (Nat×Code):=loopsIn (Try.f103.body.getD .skip) 0
theorem w103_L0:LW t103 a103 l103 0 0 h103_L0 e103_L0 s103_L0:=fun x=>by kernel_rfl
theorem w103_L2:LW t103 a103 l103 1 2 h103_L2 e103_L2 s103_L2:=fun x=>by kernel_rfl
theorem o103:Holds Try.prog 103 c103:=fh t103 a103 Try.func103 [(0,lg l103 0),(2,lg l103 1)] ⟨fun x d h=>(w103_L0 x).trans h,fun x d h=>(w103_L2 x).trans h,trivial⟩ (tc o60 (tc o141 (tc o116 tn)))
noncomputable def t104:Tbl:=[(60,[],c60)]
abbrev h104_L0:Shape:={ slots:=[(1,.bx 1 0),(3,.v (.int .i64)),(4,.v (.int .i64))],boxes:=[(1,.typ Ty150)] }
abbrev e104_L0:List (XT×Shape):=[(.ret,{ slots:=[(2,.v .bool)],boxes:=[] }),(.exit 0,{ slots:=[],boxes:=[] })]
noncomputable def q104_L0 (t3:Int) (t4:Int) (b1:Ta132):Option (Ta136⊕(((Bool×Unit)×Unit)⊕((Unit×Unit)⊕Empty))) :=
bif (decide (t4 < (b1.2.2.2.2.2.2.2.2.2.2.1.len:Int))) then bif (decide (0≤t4)&&decide (t4 < (b1.2.2.2.2.2.2.2.2.2.2.1.len:Int))) then bif (!(f60 (L.get b1.2.2.2.2.2.2.2.2.2.2.1 t4.toNat).1 (0:Int) (wI ((b1.2.2.2.2.2.2.2.1.len:Int) - (1:Int))))) then some (.inr (.inl ((false,()),()))) else bif (!(f60 (L.get b1.2.2.2.2.2.2.2.2.2.2.1 t4.toNat).2.1 t3 (5000:Int))) then some (.inr (.inl ((false,()),()))) else bif (!(f60 (L.get b1.2.2.2.2.2.2.2.2.2.2.1 t4.toNat).2.2.1 (wI ((wI (b1.2.2.2.2.1 + b1.2.2.2.2.2.1)) + (1:Int))) (5000:Int))) then some (.inr (.inl ((false,()),()))) else bif (decide ((wI ((L.get b1.2.2.2.2.2.2.2.2.2.2.1 t4.toNat).2.1 + (L.get b1.2.2.2.2.2.2.2.2.2.2.1 t4.toNat).2.2.1)) > b1.2.2.2.2.2.2.1)) then some (.inr (.inl ((false,()),()))) else some (.inl (((),((wI ((L.get b1.2.2.2.2.2.2.2.2.2.2.1 t4.toNat).2.1 + (L.get b1.2.2.2.2.2.2.2.2.2.2.1 t4.toNat).2.2.1)),((wI (t4 + (1:Int))),()))),(b1,()))) else none else some (.inr (.inr (.inl ((),()))))
noncomputable def s104_L0 (x:Ta136):=q104_L0 x.1.2.1 x.1.2.2.1 x.2.1
noncomputable def a104:Nat→Option LoopAnn:=fun c=>bif Nat.beq c 0 then some (.fix h104_L0 e104_L0 s104_L0) else none
noncomputable def g104 (x0:Ta132):Option ((Bool×Unit)×Unit) :=
bif (!(f60 (x0.2.2.2.2.2.2.2.2.2.2.1.len:Int) (1:Int) (16:Int))) then some ((false,()),()) else (fixO s104_L0 (((),((0:Int),((0:Int),()))),(x0,()))).bind fun d2=>match d2 with | .inl y1=>some ((y1.1.1,()),()) | .inr (.inl y1)=>some ((true,()),()) | .inr (.inr e)=>nomatch e
noncomputable def c104:Ctr:={ ins:=[.v Ty150],out:=[.bool],F:=fun x=>g104 x.1 }
noncomputable def l104:List (Nat×Code):=loopsIn (Try.f104.body.getD .skip) 0
theorem w104_L0:LW t104 a104 l104 0 0 h104_L0 e104_L0 s104_L0:=fun x=>by kernel_rfl
theorem o104:Holds Try.prog 104 c104:=fh t104 a104 Try.func104 [(0,lg l104 0)] ⟨fun x d h=>(w104_L0 x).trans h,trivial⟩ (tc o60 tn)
noncomputable def t53:Tbl:=[(101,[],c101),(102,[],c102),(103,[],c103),(104,[],c104)]
noncomputable def g53 (x0:Ta132):Option ((Bool×Unit)×Unit) :=
(g101 x0).bind fun y1=>bif y1.1.1 then (g102 x0).bind fun y2=>bif y2.1.1 then (g103 x0).bind fun y3=>bif y3.1.1 then (g104 x0).bind fun y4=>some ((y4.1.1,()),()) else some ((false,()),()) else some ((false,()),()) else some ((false,()),())
noncomputable def c53:Ctr:={ ins:=[.v Ty150],out:=[.bool],F:=fun x=>g53 x.1 }
theorem o53:Holds Try.prog 53 c53:=f0 t53 Try.func53 (tc o101 (tc o102 (tc o103 (tc o104 tn))))
noncomputable def t55:Tbl:=[(53,[],c53)]
abbrev h55_L0:Shape:={ slots:=[(1,.bx 1 0),(3,.v (.int .i64)),(4,.v (.int .i64))],boxes:=[(1,.typ Ty150)] }
abbrev e55_L0:List (XT×Shape):=[(.exit 0,{ slots:=[(3,.v (.int .i64))],boxes:=[] })]
noncomputable def q55_L0 (t3:Int) (t4:Int) (b1:Ta132):Option (Ta136⊕(((Int×Unit)×Unit)⊕Empty)) :=
bif (decide (t4 < (b1.2.2.2.2.2.2.2.2.2.1.len:Int))) then bif (decide (0≤t4)&&decide (t4 < (b1.2.2.2.2.2.2.2.2.2.1.len:Int))) then bif ((L.get b1.2.2.2.2.2.2.2.2.2.1 t4.toNat).1 == (0:Int)) then some (.inl (((),((wI (t3 + (1:Int))),((wI (t4 + (1:Int))),()))),(b1,()))) else bif (decide (0≤t4)&&decide (t4 < (b1.2.2.2.2.2.2.2.2.2.1.len:Int))) then some (.inl (((),((wI (t3 + (L.get b1.2.2.2.2.2.2.2.2.2.1 t4.toNat).2.2.2.1)),((wI (t4 + (1:Int))),()))),(b1,()))) else none else none else some (.inr (.inl ((t3,()),())))
noncomputable def s55_L0 (x:Ta136):=q55_L0 x.1.2.1 x.1.2.2.1 x.2.1
noncomputable def a55:Nat→Option LoopAnn:=fun c=>bif Nat.beq c 0 then some (.fix h55_L0 e55_L0 s55_L0) else none
noncomputable def g55 (x0:Ta132):Option ((Int×Unit)×Unit) :=
(g53 x0).bind fun y1=>bif (!y1.1.1) then some (((-1:Int),()),()) else (fixO s55_L0 (((),((0:Int),((0:Int),()))),(x0,()))).bind fun d3=>match d3 with | .inl y2=>some ((y2.1.1,()),()) | .inr e=>nomatch e
noncomputable def c55:Ctr:={ ins:=[.v Ty150],out:=[(.int .i64)],F:=fun x=>g55 x.1 }
noncomputable def l55:List (Nat×Code):=loopsIn (Try.f55.body.getD .skip) 0
theorem w55_L0:LW t55 a55 l55 0 0 h55_L0 e55_L0 s55_L0:=fun x=>by kernel_rfl
theorem o55:Holds Try.prog 55 c55:=fh t55 a55 Try.func55 [(0,lg l55 0)] ⟨fun x d h=>(w55_L0 x).trans h,trivial⟩ (tc o53 tn)
noncomputable def t158d:Tbl:=[(87,[],c87dw),(84,[],c84d)]
noncomputable def g158d (x0:Ta6):Option (Ta10×Ta17) :=
(g87dw x0 (L.of (Ty.zero (.int .i64)) [(1:Int),(2:Int),(2:Int),(4:Int),(8:Int),(16:Int)])).bind fun y1=>(g84d y1.2.1 (4:Int)).bind fun y2=>(g87dw y2.2.1 (L.of (Ty.zero (.int .i64)) [(4:Int),(8:Int),(8:Int),(16:Int),(32:Int)])).bind fun y3=>some (((y1.1.1,((wI ((1:Int) + y2.1.1)),y3.1)),()),(y3.2.1,()))
noncomputable def c158d:Ctr:={ ins:=[.pd Ty65],out:=[Ty61],F:=fun x=>g158d x.1 }
theorem o158d:Holds Try.prog 158 c158d:=f0 t158d Try.func158 (tc o87dw (tc o84d tn))
noncomputable def t133rd:Tbl:=[(158,[],c158d),(106,[],c106r),(84,[],c84d),(86,[],c86d),(132,[],c132r)]
abbrev h133rd_L0:Shape:={ slots:=[(0,.bx 100000000 0),(1,.v (.int .i64)),(4,.bx 4 0),(5,.bx 5 0),(6,.v (.int .i64))],boxes:=[(100000000,.typ Ty65),(4,.cells [.v (.int .i64),.v (.int .i64),.v (.int .i64),.row Ty35 60259]),(5,.cells [.v (.int .i64),.v (.int .i64),.v (.int .i64),.row Ty35 60323])] }
abbrev e133rd_L0:List (XT×Shape):=[(.exit 0,{ slots:=[(4,.bx 4 0),(5,.bx 5 0)],boxes:=[(4,.cells [.v (.int .i64),.v (.int .i64),.v (.int .i64),.ms 60259]),(5,.cells [.v (.int .i64),.v (.int .i64),.v (.int .i64),.ms 60323]),(100000000,.typ Ty65),(60259,.row Ty35),(60323,.row Ty35)] })]
noncomputable def q133rd_L0 (t1:Int) (t6:Int) (b100000000:Ta6) (b4_0:Int) (b4_1:Int) (b4_2:Int) (b4_3:Ta5) (b5_0:Int) (b5_1:Int) (b5_2:Int) (b5_3:Ta5):Option (Ta111⊕(((Unit×(Unit×Unit))×(Ta9×(Ta9×(Ta6×Ta57))))⊕Empty)) :=
bif (decide (t6 < t1)) then (g84d b100000000 (600:Int)).bind fun y3=>(g86d y3.2.1 (3:Int)).bind fun y4=>(g132r ((b5_0,(b5_1,(b5_2,()))),(b5_3,())) y3.1.1 y4.1.1).bind fun y5=>some (.inl (((),(t1,((),((),((wI (t6 + (1:Int))),()))))),(y4.2.1,((b4_0,(b4_1,(b4_2,(b4_3,())))),((y5.1.1.1.1,(y5.1.1.1.2.1,(y5.1.1.1.2.2.1,y5.1.1.2))),()))))) else some (.inr (.inl (((),((),())),((b4_0,(b4_1,(b4_2,((),())))),((b5_0,(b5_1,(b5_2,((),())))),(b100000000,(b4_3,(b5_3,()))))))))
noncomputable def s133rd_L0 (x:Ta111):=q133rd_L0 x.1.2.1 x.1.2.2.2.2.1 x.2.1 x.2.2.1.1 x.2.2.1.2.1 x.2.2.1.2.2.1 x.2.2.1.2.2.2.1 x.2.2.2.1.1 x.2.2.2.1.2.1 x.2.2.2.1.2.2.1 x.2.2.2.1.2.2.2.1
noncomputable def a133rd:Nat→Option LoopAnn:=fun c=>bif Nat.beq c 0 then some (.fix h133rd_L0 e133rd_L0 s133rd_L0) else none
noncomputable def g133rd (x0:Ta6) (x1:Int):Option Ta84 :=
(g158d x0).bind fun y1=>(g106r y1.1.1).bind fun y2=>(fixO s133rd_L0 (((),(x1,((),((),((0:Int),()))))),(y1.2.1,(((0:Int),((0:Int),((0:Int),((nilL Ty35),())))),((y2.1.1.1.1,(y2.1.1.1.2.1,(y2.1.1.1.2.2.1,y2.1.1.2))),()))))).bind fun d7=>match d7 with | .inl y6=>some ((((y6.2.2.1.1,(y6.2.2.1.2.1,(y6.2.2.1.2.2.1,()))),y6.2.2.2.2.2),()),(y6.2.2.2.1,())) | .inr e=>nomatch e
noncomputable def c133rd:Ctr:={ ins:=[.pd Ty65,.v (.int .i64)],out:=[Ty99],F:=fun x=>g133rd x.1 x.2.1,fr:=1 }
noncomputable def l133rd:List (Nat×Code):=loopsIn (Try.f133.body.getD .skip) 0
theorem w133rd_L0:LW t133rd a133rd l133rd 0 0 h133rd_L0 e133rd_L0 s133rd_L0:=fun x=>by kernel_rfl
theorem o133rd:Holds Try.prog 133 c133rd:=fh t133rd a133rd Try.func133 [(0,lg l133rd 0)] ⟨fun x d h=>(w133rd_L0 x).trans h,trivial⟩ (tc o158d (tc o106r (tc o84d (tc o86d (tc o132r tn)))))
noncomputable def t97d:Tbl:=[(85,[],c85),(84,[],c84d),(133,[],c133rd),(87,[],c87dw)]
noncomputable def g97d (x0:Ta6) (x1:(L Int)):Option Ta84 :=
(g84d x0 (f85 x1 (40:Int))).bind fun y1=>(g133rd y1.2.1 y1.1.1).bind fun y2=>(g84d y2.2.1 (20:Int)).bind fun y3=>bif (y3.1.1 == (0:Int)) then bif (decide ((0:Int) < (y2.1.1.2.1.len:Int))) then (g87dw y3.2.1 (L.of (Ty.zero (.int .i64)) [(-1:Int),(65535:Int),(65536:Int)])).bind fun y4=>bif (decide ((L.get y2.1.1.2.1 (0:Int).toNat).len + (L.of (Ty.zero Ty26) [(y4.1.1,(false,()))]).len≤most)) then bif (decide ((0:Int) < (y2.1.1.2.1.len:Int))) then some (((y2.1.1.1,((L.set y2.1.1.2.1 (0:Int).toNat (L.app (L.get y2.1.1.2.1 (0:Int).toNat) (L.of (Ty.zero Ty26) [(y4.1.1,(false,()))]))),())),()),(y4.2.1,())) else none else none else none else bif (y3.1.1 == (1:Int)) then bif (decide (y2.1.1.2.1.len + (L.of (Ty.zero Ty35) [(L.of (Ty.zero Ty26) [])]).len≤most)) then some (((y2.1.1.1,((L.app y2.1.1.2.1 (L.of (Ty.zero Ty35) [(L.of (Ty.zero Ty26) [])])),())),()),(y3.2.1,())) else none else bif (y3.1.1 == (2:Int)) then some (((((wI (y2.1.1.1.1 + (1:Int))),y2.1.1.1.2),y2.1.1.2),()),(y3.2.1,())) else bif (y3.1.1 == (3:Int)) then bif (decide ((0:Int) < (y2.1.1.2.1.len:Int))) then bif (decide ((L.get y2.1.1.2.1 (0:Int).toNat).len + (L.of (Ty.zero Ty26) [((7:Int),(false,())),((7:Int),(false,()))]).len≤most)) then bif (decide ((0:Int) < (y2.1.1.2.1.len:Int))) then some (((y2.1.1.1,((L.set y2.1.1.2.1 (0:Int).toNat (L.app (L.get y2.1.1.2.1 (0:Int).toNat) (L.of (Ty.zero Ty26) [((7:Int),(false,())),((7:Int),(false,()))]))),())),()),(y3.2.1,())) else none else none else none else bif (y3.1.1 == (4:Int)) then (g87dw y3.2.1 (L.of (Ty.zero (.int .i64)) [(0:Int),(64:Int),(5:Int)])).bind fun y5=>some ((((y2.1.1.1.1,(y2.1.1.1.2.1,y5.1)),y2.1.1.2),()),(y5.2.1,())) else some ((y2.1.1,()),(y3.2.1,()))
noncomputable def c97d:Ctr:={ ins:=[.pd Ty65,.v (.sl (.int .u8))],out:=[Ty99],F:=fun x=>g97d x.1 x.2.1 }
theorem o97d:Holds Try.prog 97 c97d:=f0 t97d Try.func97 (tc o85 (tc o84d (tc o133rd (tc o87dw tn))))
noncomputable def t51:Tbl:=[(82,[],c82),(95,[],c95d),(85,[],c85),(84,[],c84d),(96,[],c96d),(86,[],c86d),(55,[],c55),(87,[],c87dw),(97,[],c97d)]
noncomputable def g51 (x0:(L Int)):Option ((Ta132×(Ta53×(Int×Unit)))×Unit) :=
(g82 x0).bind fun y1=>(g95d y1.1.1).bind fun y2=>(g84d y2.2.1 (f85 x0 (30:Int))).bind fun y3=>(g96d y3.2.1 y2.1.1.2.1 y3.1.1).bind fun y4=>(g84d y4.2.1 (4:Int)).bind fun y5=>(g86d y5.2.1 (3:Int)).bind fun y6=>bif y6.1.1 then (g55 y2.1.1).bind fun y7=>(g87dw y6.2.1 (L.of (Ty.zero (.int .i64)) [(0:Int),(0:Int),(1:Int)])).bind fun y8=>(g86d y8.2.1 (15:Int)).bind fun y9=>bif y9.1.1 then (g97d y9.2.1 x0).bind fun y10=>some ((y2.1.1,y10.1.1,(wI (y7.1.1 + y8.1.1)),()),()) else some ((y2.1.1,y4.1.1,(wI (y7.1.1 + y8.1.1)),()),()) else (g86d y6.2.1 (15:Int)).bind fun y11=>bif y11.1.1 then (g97d y11.2.1 x0).bind fun y12=>some ((y2.1.1,y12.1.1,y5.1.1,()),()) else some ((y2.1.1,y4.1.1,y5.1.1,()),())
noncomputable def c51:Ctr:={ ins:=[.v (.sl (.int .u8))],out:=[Ty150,Ty99,(.int .i64)],F:=fun x=>g51 x.1 }
theorem o51:Holds Try.prog 51 c51:=f0 t51 Try.func51 (tc o82 (tc o95d (tc o85 (tc o84d (tc o96d (tc o86d (tc o55 (tc o87dw (tc o97d tn)))))))))
noncomputable def t61:Tbl:=[]
noncomputable def g61 (x0:Int) (x1:Int) (x2:Int):Option ((Bool×Unit)×Unit) :=
bif (decide (x0 ≥ x1)) then some (((decide (x0≤x2)),()),()) else some ((false,()),())
noncomputable def f61 (x0:Int) (x1:Int) (x2:Int):Bool :=
bif (decide (x0 ≥ x1)) then (decide (x0≤x2)) else false
theorem n61 (x0:Int) (x1:Int) (x2:Int):g61 x0 x1 x2 = some ((f61 x0 x1 x2,()),()):=by simp only [g61,f61,pull1]
noncomputable def c61:Ctr:={ ins:=[.v (.int .i64),.v (.int .i64),.v (.int .i64)],out:=[.bool],F:=fun x=>some ((f61 x.1 x.2.1 x.2.2.1,()),()) }
theorem o61:Holds Try.prog 61 c61:=f0T t61 (fun x=>g61 x.1 x.2.1 x.2.2.1) Try.func61 tn (fun x=>n61 x.1 x.2.1 x.2.2.1)
noncomputable def t117:Tbl:=[(61,[],c61)]
noncomputable def g117 (x0:Int):Option ((Bool×Unit)×Unit) :=
bif (f61 x0 (64:Int) (2048:Int)) then some ((((Int.tmod x0 (4:Int)) == (0:Int)),()),()) else some ((false,()),())
noncomputable def f117 (x0:Int):Bool :=
bif (f61 x0 (64:Int) (2048:Int)) then ((Int.tmod x0 (4:Int)) == (0:Int)) else false
theorem n117 (x0:Int):g117 x0 = some ((f117 x0,()),()):=by simp only [g117,f117,pull1]
noncomputable def c117:Ctr:={ ins:=[.v (.int .i64)],out:=[.bool],F:=fun x=>some ((f117 x.1,()),()) }
theorem o117:Holds Try.prog 117 c117:=f0T t117 (fun x=>g117 x.1) Try.func117 (tc o61 tn) (fun x=>n117 x.1)
noncomputable def t145:Tbl:=[]
noncomputable def g145 (x0:Int):Option ((Bool×Unit)×Unit) :=
bif (decide (x0 > (0:Int))) then some ((((andOf .i64 x0 (wI (x0 - (1:Int)))) == (0:Int)),()),()) else some ((false,()),())
noncomputable def f145 (x0:Int):Bool :=
bif (decide (x0 > (0:Int))) then ((andOf .i64 x0 (wI (x0 - (1:Int)))) == (0:Int)) else false
theorem n145 (x0:Int):g145 x0 = some ((f145 x0,()),()):=by simp only [g145,f145,pull1]
noncomputable def c145:Ctr:={ ins:=[.v (.int .i64)],out:=[.bool],F:=fun x=>some ((f145 x.1,()),()) }
theorem o145:Holds Try.prog 145 c145:=f0T t145 (fun x=>g145 x.1) Try.func145 tn (fun x=>n145 x.1)
noncomputable def t118:Tbl:=[(61,[],c61),(145,[],c145)]
noncomputable def g118 (x0:(Int×(Int×(Int×Unit)))):Option ((Bool×Unit)×Unit) :=
bif (f61 x0.1 (1:Int) (16:Int)) then bif (f145 x0.1) then bif (f61 x0.2.1 (1:Int) (4:Int)) then bif (f61 x0.2.2.1 (4:Int) (32:Int)) then some (((f145 x0.2.2.1),()),()) else some ((false,()),()) else some ((false,()),()) else some ((false,()),()) else some ((false,()),())
noncomputable def f118 (x0:(Int×(Int×(Int×Unit)))):Bool :=
bif (f61 x0.1 (1:Int) (16:Int)) then bif (f145 x0.1) then bif (f61 x0.2.1 (1:Int) (4:Int)) then bif (f61 x0.2.2.1 (4:Int) (32:Int)) then (f145 x0.2.2.1) else false else false else false else false
theorem n118 (x0:(Int×(Int×(Int×Unit)))):g118 x0 = some ((f118 x0,()),()):=by simp only [g118,f118,pull1]
noncomputable def c118:Ctr:={ ins:=[.v Ty61],out:=[.bool],F:=fun x=>some ((f118 x.1,()),()) }
theorem o118:Holds Try.prog 118 c118:=f0T t118 (fun x=>g118 x.1) Try.func118 (tc o61 (tc o145 tn)) (fun x=>n118 x.1)
noncomputable def t119:Tbl:=[(61,[],c61)]
noncomputable def a119:Nat→Option LoopAnn:=fun c=>bif Nat.beq c 0 then some (.unroll 7 [1,17,18] [1]) else none
noncomputable def g119 (x0:Ta37):Option ((Bool×Unit)×Unit) :=
bif (!(f61 x0.2.1 (0:Int) (50:Int))) then some ((false,()),()) else bif (!(f61 x0.2.2.1 (0:Int) (50:Int))) then some ((false,()),()) else bif (!(f61 x0.2.2.2.1 (0:Int) (50:Int))) then some ((false,()),()) else bif (!(f61 x0.2.2.2.2.1 (0:Int) (50:Int))) then some ((false,()),()) else bif (!(f61 x0.2.2.2.2.2.1 (0:Int) (50:Int))) then some ((false,()),()) else bif (!(f61 x0.2.2.2.2.2.2.1 (0:Int) (50:Int))) then some ((false,()),()) else some (((f61 x0.1 (1:Int) (20:Int)),()),())
noncomputable def f119 (x0:Ta37):Bool :=
bif (!(f61 x0.2.1 (0:Int) (50:Int))) then false else bif (!(f61 x0.2.2.1 (0:Int) (50:Int))) then false else bif (!(f61 x0.2.2.2.1 (0:Int) (50:Int))) then false else bif (!(f61 x0.2.2.2.2.1 (0:Int) (50:Int))) then false else bif (!(f61 x0.2.2.2.2.2.1 (0:Int) (50:Int))) then false else bif (!(f61 x0.2.2.2.2.2.2.1 (0:Int) (50:Int))) then false else (f61 x0.1 (1:Int) (20:Int))
theorem n119 (x0:Ta37):g119 x0 = some ((f119 x0,()),()):=by simp only [g119,f119,pull1]
noncomputable def c119:Ctr:={ ins:=[.v Ty101],out:=[.bool],F:=fun x=>some ((f119 x.1,()),()) }
noncomputable def l119:List (Nat×Code):=loopsIn (Try.f119.body.getD .skip) 0
theorem o119:Holds Try.prog 119 c119:=fhT t119 a119 (fun x=>g119 x.1) Try.func119 [(0,lg l119 0)] ⟨trivial,trivial⟩ (tc o61 tn) (fun x=>n119 x.1)
noncomputable def t120:Tbl:=[(61,[],c61)]
noncomputable def g120 (x0:Int):Option ((Bool×Unit)×Unit) :=
some (((f61 x0 (1:Int) (5000:Int)),()),())
noncomputable def f120 (x0:Int):Bool :=
(f61 x0 (1:Int) (5000:Int))
theorem n120 (x0:Int):g120 x0 = some ((f120 x0,()),()):=by simp only [g120,f120,pull1]
noncomputable def c120:Ctr:={ ins:=[.v (.int .i64)],out:=[.bool],F:=fun x=>some ((f120 x.1,()),()) }
theorem o120:Holds Try.prog 120 c120:=f0T t120 (fun x=>g120 x.1) Try.func120 (tc o61 tn) (fun x=>n120 x.1)
noncomputable def t167:Tbl:=[(61,[],c61)]
noncomputable def g167 (x0:Ta37) (x1:Int):Option ((Int×Unit)×Unit) :=
bif (x1 == (9:Int)) then some (((wI (x0.1 + x0.2.1)),()),()) else bif (x1 == (10:Int)) then some (((wI (x0.1 + x0.2.1)),()),()) else bif (f61 x1 (15:Int) (18:Int)) then some (((wI (x0.1 + x0.2.2.1)),()),()) else bif (decide (x1 ≥ (25:Int))) then some (((wI (x0.1 + x0.2.2.2.2.2.1)),()),()) else some ((x0.1,()),())
noncomputable def f167 (x0:Ta37) (x1:Int):Int :=
bif (x1 == (9:Int)) then (wI (x0.1 + x0.2.1)) else bif (x1 == (10:Int)) then (wI (x0.1 + x0.2.1)) else bif (f61 x1 (15:Int) (18:Int)) then (wI (x0.1 + x0.2.2.1)) else bif (decide (x1 ≥ (25:Int))) then (wI (x0.1 + x0.2.2.2.2.2.1)) else x0.1
theorem n167 (x0:Ta37) (x1:Int):g167 x0 x1 = some ((f167 x0 x1,()),()):=by simp only [g167,f167,pull1]
noncomputable def c167:Ctr:={ ins:=[.v Ty101,.v (.int .i64)],out:=[(.int .i64)],F:=fun x=>some ((f167 x.1 x.2.1,()),()) }
theorem o167:Holds Try.prog 167 c167:=f0T t167 (fun x=>g167 x.1 x.2.1) Try.func167 (tc o61 tn) (fun x=>n167 x.1 x.2.1)
noncomputable def t168:Tbl:=[]
noncomputable def g168 (x0:Ta37) (x1:Ta3):Option ((Int×Unit)×Unit) :=
bif (!x1.1) then bif (!x1.2.1) then bif x1.2.2.1 then some (((wI ((wI ((wI ((0:Int) + x0.2.2.2.1)) + x0.2.2.2.2.1)) + x0.2.2.2.2.2.2.1)),()),()) else some (((wI ((wI ((0:Int) + x0.2.2.2.1)) + x0.2.2.2.2.1)),()),()) else bif x1.2.2.1 then some (((wI ((wI ((0:Int) + x0.2.2.2.1)) + x0.2.2.2.2.2.2.1)),()),()) else some (((wI ((0:Int) + x0.2.2.2.1)),()),()) else bif (!x1.2.1) then bif x1.2.2.1 then some (((wI ((wI ((0:Int) + x0.2.2.2.2.1)) + x0.2.2.2.2.2.2.1)),()),()) else some (((wI ((0:Int) + x0.2.2.2.2.1)),()),()) else bif x1.2.2.1 then some (((wI ((0:Int) + x0.2.2.2.2.2.2.1)),()),()) else some (((0:Int),()),())
noncomputable def f168 (x0:Ta37) (x1:Ta3):Int :=
bif (!x1.1) then bif (!x1.2.1) then bif x1.2.2.1 then (wI ((wI ((wI ((0:Int) + x0.2.2.2.1)) + x0.2.2.2.2.1)) + x0.2.2.2.2.2.2.1)) else (wI ((wI ((0:Int) + x0.2.2.2.1)) + x0.2.2.2.2.1)) else bif x1.2.2.1 then (wI ((wI ((0:Int) + x0.2.2.2.1)) + x0.2.2.2.2.2.2.1)) else (wI ((0:Int) + x0.2.2.2.1)) else bif (!x1.2.1) then bif x1.2.2.1 then (wI ((wI ((0:Int) + x0.2.2.2.2.1)) + x0.2.2.2.2.2.2.1)) else (wI ((0:Int) + x0.2.2.2.2.1)) else bif x1.2.2.1 then (wI ((0:Int) + x0.2.2.2.2.2.2.1)) else (0:Int)
theorem n168 (x0:Ta37) (x1:Ta3):g168 x0 x1 = some ((f168 x0 x1,()),()):=by simp only [g168,f168,pull1]
noncomputable def c168:Ctr:={ ins:=[.v Ty101,.v (.pair .bool (.pair .bool (.pair .bool .unit)))],out:=[(.int .i64)],F:=fun x=>some ((f168 x.1 x.2.1,()),()) }
theorem o168:Holds Try.prog 168 c168:=f0T t168 (fun x=>g168 x.1 x.2.1) Try.func168 tn (fun x=>n168 x.1 x.2.1)
noncomputable def t146:Tbl:=[(119,[],c119),(167,[],c167),(168,[],c168)]
abbrev h146_L0:Shape:={ slots:=[(1,.bx 1 0),(3,.v (.int .i64)),(8,.v (.int .i64))],boxes:=[(1,.typ Ty101)] }
abbrev e146_L0:List (XT×Shape):=[(.exit 0,{ slots:=[(1,.bx 1 0),(3,.v (.int .i64))],boxes:=[(1,.typ Ty101)] })]
noncomputable def q146_L0 (t3:Int) (t8:Int) (b1:Ta37):Option (Ta72⊕(((Unit×(Int×Unit))×Ta49)⊕Empty)) :=
bif (decide (t8 < (33:Int))) then some (.inl (((),((if (f167 b1 t8) > t3 then (f167 b1 t8) else t3),((wI (t8 + (1:Int))),()))),(b1,()))) else some (.inr (.inl (((),(t3,())),(b1,()))))
noncomputable def s146_L0 (x:Ta72):=q146_L0 x.1.2.1 x.1.2.2.1 x.2.1
noncomputable def a146:Nat→Option LoopAnn:=fun c=>bif Nat.beq c 0 then some (.fix h146_L0 e146_L0 s146_L0) else none
noncomputable def g146 (x0:Ta37):Option ((Int×Unit)×Unit) :=
bif (!(f119 x0)) then some (((-1:Int),()),()) else (fixO s146_L0 (((),((0:Int),((0:Int),()))),(x0,()))).bind fun d2=>match d2 with | .inl y1=>some (((wI ((wI (y1.1.2.1 + (wI ((2:Int) * (f168 y1.2.1 (false,(false,(true,())))))))) + y1.2.1.2.2.2.2.2.1)),()),()) | .inr e=>nomatch e
noncomputable def c146:Ctr:={ ins:=[.v Ty101],out:=[(.int .i64)],F:=fun x=>g146 x.1 }
noncomputable def l146:List (Nat×Code):=loopsIn (Try.f146.body.getD .skip) 0
theorem w146_L0:LW t146 a146 l146 0 0 h146_L0 e146_L0 s146_L0:=fun x=>by kernel_rfl
theorem o146:Holds Try.prog 146 c146:=fh t146 a146 Try.func146 [(0,lg l146 0)] ⟨fun x d h=>(w146_L0 x).trans h,trivial⟩ (tc o119 (tc o167 (tc o168 tn)))
noncomputable def t121:Tbl:=[(146,[],c146)]
noncomputable def g121 (x0:Ta37):Option ((Int×Unit)×Unit) :=
(g146 x0).bind fun y1=>some ((y1.1.1,()),())
noncomputable def c121:Ctr:={ ins:=[.v Ty101],out:=[(.int .i64)],F:=fun x=>g121 x.1 }
theorem o121:Holds Try.prog 121 c121:=f0 t121 Try.func121 (tc o146 tn)
noncomputable def t169:Tbl:=[(61,[],c61)]
abbrev h169_L0:Shape:={ slots:=[(0,.v .str),(5,.v (.int .i64)),(6,.v (.int .i64))],boxes:=[] }
abbrev e169_L0:List (XT×Shape):=[(.ret,{ slots:=[(2,.v .bool)],boxes:=[] }),(.exit 0,{ slots:=[(0,.v .str)],boxes:=[] })]
noncomputable def q169_L0 (t0:ByteArray) (t5:Int) (t6:Int):Option (((ByteArray×(Int×(Int×Unit)))×Unit)⊕(((Bool×Unit)×Unit)⊕(((ByteArray×Unit)×Unit)⊕Empty))) :=
bif (decide (t6 < t5)) then bif (decide (0≤t6)&&decide (t6 < t0.size)) then bif (decide ((bt t0 t6) < (97:Int))) then some (.inr (.inl ((false,()),()))) else bif (decide (0≤t6)&&decide (t6 < t0.size)) then bif (decide ((bt t0 t6) > (122:Int))) then some (.inr (.inl ((false,()),()))) else some (.inl ((t0,(t5,((wI (t6 + (1:Int))),()))),())) else none else none else some (.inr (.inr (.inl ((t0,()),()))))
noncomputable def s169_L0 (x:((ByteArray×(Int×(Int×Unit)))×Unit)):=q169_L0 x.1.1 x.1.2.1 x.1.2.2.1
noncomputable def a169:Nat→Option LoopAnn:=fun c=>bif Nat.beq c 0 then some (.fix h169_L0 e169_L0 s169_L0) else none
noncomputable def g169 (x0:ByteArray):Option ((Bool×Unit)×Unit) :=
(fixO s169_L0 ((x0,((x0.size:Int),((0:Int),()))),())).bind fun d2=>match d2 with | .inl y1=>some ((y1.1.1,()),()) | .inr (.inl y1)=>some (((f61 (y1.1.1.size:Int) (1:Int) (12:Int)),()),()) | .inr (.inr e)=>nomatch e
noncomputable def c169:Ctr:={ ins:=[.v .str],out:=[.bool],F:=fun x=>g169 x.1 }
noncomputable def l169:List (Nat×Code):=loopsIn (Try.f169.body.getD .skip) 0
theorem w169_L0:LW t169 a169 l169 0 0 h169_L0 e169_L0 s169_L0:=fun x=>by kernel_rfl
theorem o169:Holds Try.prog 169 c169:=fh t169 a169 Try.func169 [(0,lg l169 0)] ⟨fun x d h=>(w169_L0 x).trans h,trivial⟩ (tc o61 tn)
noncomputable def t147:Tbl:=[(169,[],c169)]
noncomputable def g147 (x0:ByteArray):Option ((Bool×Unit)×Unit) :=
(g169 x0).bind fun y1=>bif y1.1.1 then some (((decide ((x0.size:Int)≤(8:Int))),()),()) else some ((false,()),())
noncomputable def c147:Ctr:={ ins:=[.v .str],out:=[.bool],F:=fun x=>g147 x.1 }
theorem o147:Holds Try.prog 147 c147:=f0 t147 Try.func147 (tc o169 tn)
noncomputable def t171:Tbl:=[]
noncomputable def g171 (x0:Ta66) (x1:ByteArray):Option ((Bool×Unit)×Unit) :=
some (((strEq x0.1 x1),()),())
noncomputable def f171 (x0:Ta66) (x1:ByteArray):Bool :=
(strEq x0.1 x1)
theorem n171 (x0:Ta66) (x1:ByteArray):g171 x0 x1 = some ((f171 x0 x1,()),()):=by simp only [g171,f171,pull1]
noncomputable def c171:Ctr:={ ins:=[.v Ty107,.rf .str],out:=[.bool],F:=fun x=>some ((f171 x.1 x.2.1,()),()) }
theorem o171:Holds Try.prog 171 c171:=f0T t171 (fun x=>g171 x.1 x.2.1) Try.func171 tn (fun x=>n171 x.1 x.2.1)
noncomputable def t170_171:Tbl:=[(171,[],c171)]
abbrev h170_171_L0:Shape:={ slots:=[(0,.v Ty109),(1,.clo 171 [.str]),(7,.v (.int .i64)),(8,.v (.int .i64))],boxes:=[] }
abbrev e170_171_L0:List (XT×Shape):=[(.ret,{ slots:=[(4,.v (.int .i64))],boxes:=[] }),(.exit 0,{ slots:=[],boxes:=[] })]
noncomputable def q170_171_L0 (t0:Ta68) (t1:(ByteArray×Unit)) (t7:Int) (t8:Int):Option (((Ta68×((ByteArray×Unit)×(Int×(Int×Unit))))×Unit)⊕(((Int×Unit)×Unit)⊕((Unit×Unit)⊕Empty))) :=
bif (decide (t8 < t7)) then bif (decide (0≤t8)&&decide (t8 < (t0.len:Int))) then bif (f171 (L.get t0 t8.toNat) t1.1) then some (.inr (.inl ((t8,()),()))) else some (.inl ((t0,(t1,(t7,((wI (t8 + (1:Int))),())))),())) else none else some (.inr (.inr (.inl ((),()))))
noncomputable def s170_171_L0 (x:((Ta68×((ByteArray×Unit)×(Int×(Int×Unit))))×Unit)):=q170_171_L0 x.1.1 x.1.2.1 x.1.2.2.1 x.1.2.2.2.1
noncomputable def a170_171:Nat→Option LoopAnn:=fun c=>bif Nat.beq c 0 then some (.fix h170_171_L0 e170_171_L0 s170_171_L0) else none
noncomputable def g170_171 (x0:Ta68) (x1:(ByteArray×Unit)):Option ((Int×Unit)×Unit) :=
(fixO s170_171_L0 ((x0,(x1,((x0.len:Int),((0:Int),())))),())).bind fun d2=>match d2 with | .inl y1=>some ((y1.1.1,()),()) | .inr (.inl y1)=>some (((-1:Int),()),()) | .inr (.inr e)=>nomatch e
noncomputable def c170_171:Ctr:={ ins:=[.v Ty109,.clo 171 [.str]],out:=[(.int .i64)],F:=fun x=>g170_171 x.1 x.2.1 }
noncomputable def l170_171:List (Nat×Code):=loopsIn (Try.f170.body.getD .skip) 0
theorem w170_171_L0:LW t170_171 a170_171 l170_171 0 0 h170_171_L0 e170_171_L0 s170_171_L0:=fun x=>by kernel_rfl
theorem o170_171:Holds Try.prog 170 c170_171:=fh t170_171 a170_171 Try.func170 [(0,lg l170_171 0)] ⟨fun x d h=>(w170_171_L0 x).trans h,trivial⟩ (tc o171 tn)
noncomputable def t148:Tbl:=[(170,[171],c170_171)]
noncomputable def g148 (x0:Ta132) (x1:ByteArray):Option ((Int×Unit)×Unit) :=
(g170_171 x0.2.2.2.2.2.2.2.1 (x1,())).bind fun y1=>some ((y1.1.1,()),())
noncomputable def c148:Ctr:={ ins:=[.v Ty150,.v .str],out:=[(.int .i64)],F:=fun x=>g148 x.1 x.2.1 }
theorem o148:Holds Try.prog 148 c148:=f0 t148 Try.func148 (tc o170_171 tn)
noncomputable def t149:Tbl:=[(61,[],c61)]
noncomputable def g149 (x0:(Int×(Int×Unit))):Option ((Bool×Unit)×Unit) :=
bif (x0.1 == (1:Int)) then some (((f61 x0.2.1 (0:Int) (100:Int)),()),()) else bif (x0.1 == (0:Int)) then some (((x0.2.1 == (0:Int)),()),()) else bif (x0.1 == (2:Int)) then some (((x0.2.1 == (0:Int)),()),()) else some ((false,()),())
noncomputable def f149 (x0:(Int×(Int×Unit))):Bool :=
bif (x0.1 == (1:Int)) then (f61 x0.2.1 (0:Int) (100:Int)) else bif (x0.1 == (0:Int)) then (x0.2.1 == (0:Int)) else bif (x0.1 == (2:Int)) then (x0.2.1 == (0:Int)) else false
theorem n149 (x0:(Int×(Int×Unit))):g149 x0 = some ((f149 x0,()),()):=by simp only [g149,f149,pull1]
noncomputable def c149:Ctr:={ ins:=[.v Ty34],out:=[.bool],F:=fun x=>some ((f149 x.1,()),()) }
theorem o149:Holds Try.prog 149 c149:=f0T t149 (fun x=>g149 x.1) Try.func149 (tc o61 tn) (fun x=>n149 x.1)
noncomputable def t150:Tbl:=[(61,[],c61)]
noncomputable def g150 (x0:(Int×(Int×(Int×Unit)))):Option ((Bool×Unit)×Unit) :=
bif (f61 x0.2.1 (4:Int) (2048:Int)) then bif ((Int.tmod x0.2.1 (4:Int)) == (0:Int)) then bif (f61 x0.1 (0:Int) (wI ((2048:Int) - x0.2.1))) then bif ((Int.tmod x0.1 (4:Int)) == (0:Int)) then some (((f61 x0.2.2.1 (1:Int) (7:Int)),()),()) else some ((false,()),()) else some ((false,()),()) else some ((false,()),()) else some ((false,()),())
noncomputable def f150 (x0:(Int×(Int×(Int×Unit)))):Bool :=
bif (f61 x0.2.1 (4:Int) (2048:Int)) then bif ((Int.tmod x0.2.1 (4:Int)) == (0:Int)) then bif (f61 x0.1 (0:Int) (wI ((2048:Int) - x0.2.1))) then bif ((Int.tmod x0.1 (4:Int)) == (0:Int)) then (f61 x0.2.2.1 (1:Int) (7:Int)) else false else false else false else false
theorem n150 (x0:(Int×(Int×(Int×Unit)))):g150 x0 = some ((f150 x0,()),()):=by simp only [g150,f150,pull1]
noncomputable def c150:Ctr:={ ins:=[.v Ty61],out:=[.bool],F:=fun x=>some ((f150 x.1,()),()) }
theorem o150:Holds Try.prog 150 c150:=f0T t150 (fun x=>g150 x.1) Try.func150 (tc o61 tn) (fun x=>n150 x.1)
noncomputable def t153:Tbl:=[]
noncomputable def g153 (x0:(Int×(Int×(Int×Unit)))) (x1:(Int×(Int×(Int×Unit)))):Option ((Bool×Unit)×Unit) :=
bif (decide ((wI (x0.1 + x0.2.1))≤x1.1)) then some ((true,()),()) else some (((decide ((wI (x1.1 + x1.2.1))≤x0.1)),()),())
noncomputable def f153 (x0:(Int×(Int×(Int×Unit)))) (x1:(Int×(Int×(Int×Unit)))):Bool :=
bif (decide ((wI (x0.1 + x0.2.1))≤x1.1)) then true else (decide ((wI (x1.1 + x1.2.1))≤x0.1))
theorem n153 (x0:(Int×(Int×(Int×Unit)))) (x1:(Int×(Int×(Int×Unit)))):g153 x0 x1 = some ((f153 x0 x1,()),()):=by simp only [g153,f153,pull1]
noncomputable def c153:Ctr:={ ins:=[.v Ty61,.v Ty61],out:=[.bool],F:=fun x=>some ((f153 x.1 x.2.1,()),()) }
theorem o153:Holds Try.prog 153 c153:=f0T t153 (fun x=>g153 x.1 x.2.1) Try.func153 tn (fun x=>n153 x.1 x.2.1)
noncomputable def t152:Tbl:=[(153,[],c153)]
noncomputable def g152 (x0:(Int×(Int×(Int×Unit)))) (x1:(Int×(Int×(Int×Unit)))):Option ((Bool×Unit)×Unit) :=
some (((!(f153 x0 x1)),()),())
noncomputable def f152 (x0:(Int×(Int×(Int×Unit)))) (x1:(Int×(Int×(Int×Unit)))):Bool :=
(!(f153 x0 x1))
theorem n152 (x0:(Int×(Int×(Int×Unit)))) (x1:(Int×(Int×(Int×Unit)))):g152 x0 x1 = some ((f152 x0 x1,()),()):=by simp only [g152,f152,pull1]
noncomputable def c152:Ctr:={ ins:=[.v Ty61,.rf Ty61],out:=[.bool],F:=fun x=>some ((f152 x.1 x.2.1,()),()) }
theorem o152:Holds Try.prog 152 c152:=f0T t152 (fun x=>g152 x.1 x.2.1) Try.func152 (tc o153 tn) (fun x=>n152 x.1 x.2.1)
noncomputable def t172_152:Tbl:=[(152,[],c152)]
abbrev h172_152_L0:Shape:={ slots:=[(0,.v Ty67),(1,.clo 152 [Ty61]),(7,.v (.int .i64)),(8,.v (.int .i64))],boxes:=[] }
abbrev e172_152_L0:List (XT×Shape):=[(.ret,{ slots:=[(4,.v (.int .i64))],boxes:=[] }),(.exit 0,{ slots:=[],boxes:=[] })]
noncomputable def q172_152_L0 (t0:Ta7) (t1:Ta10) (t7:Int) (t8:Int):Option (((Ta7×(Ta10×(Int×(Int×Unit))))×Unit)⊕(((Int×Unit)×Unit)⊕((Unit×Unit)⊕Empty))) :=
bif (decide (t8 < t7)) then bif (decide (0≤t8)&&decide (t8 < (t0.len:Int))) then bif (f152 (L.get t0 t8.toNat) t1.1) then some (.inr (.inl ((t8,()),()))) else some (.inl ((t0,(t1,(t7,((wI (t8 + (1:Int))),())))),())) else none else some (.inr (.inr (.inl ((),()))))
noncomputable def s172_152_L0 (x:((Ta7×(Ta10×(Int×(Int×Unit))))×Unit)):=q172_152_L0 x.1.1 x.1.2.1 x.1.2.2.1 x.1.2.2.2.1
noncomputable def a172_152:Nat→Option LoopAnn:=fun c=>bif Nat.beq c 0 then some (.fix h172_152_L0 e172_152_L0 s172_152_L0) else none
noncomputable def g172_152 (x0:Ta7) (x1:Ta10):Option ((Int×Unit)×Unit) :=
(fixO s172_152_L0 ((x0,(x1,((x0.len:Int),((0:Int),())))),())).bind fun d2=>match d2 with | .inl y1=>some ((y1.1.1,()),()) | .inr (.inl y1)=>some (((-1:Int),()),()) | .inr (.inr e)=>nomatch e
noncomputable def c172_152:Ctr:={ ins:=[.v Ty67,.clo 152 [Ty61]],out:=[(.int .i64)],F:=fun x=>g172_152 x.1 x.2.1 }
noncomputable def l172_152:List (Nat×Code):=loopsIn (Try.f172.body.getD .skip) 0
theorem w172_152_L0:LW t172_152 a172_152 l172_152 0 0 h172_152_L0 e172_152_L0 s172_152_L0:=fun x=>by kernel_rfl
theorem o172_152:Holds Try.prog 172 c172_152:=fh t172_152 a172_152 Try.func172 [(0,lg l172_152 0)] ⟨fun x d h=>(w172_152_L0 x).trans h,trivial⟩ (tc o152 tn)
noncomputable def t151_152:Tbl:=[(172,[152],c172_152)]
noncomputable def g151_152 (x0:Ta7) (x1:Ta10):Option ((Bool×Unit)×Unit) :=
(g172_152 x0 x1).bind fun y1=>some (((decide (y1.1.1 ≥ (0:Int))),()),())
noncomputable def c151_152:Ctr:={ ins:=[.v Ty67,.clo 152 [Ty61]],out:=[.bool],F:=fun x=>g151_152 x.1 x.2.1 }
theorem o151_152:Holds Try.prog 151 c151_152:=f0 t151_152 Try.func151 (tc o172_152 tn)
noncomputable def t176:Tbl:=[]
noncomputable def g176 (x0:(Int×(Int×(Int×Unit)))) (x1:Int):Option ((Bool×Unit)×Unit) :=
bif (decide (x0.1≤x1)) then some (((decide (x1 < (wI (x0.1 + x0.2.1)))),()),()) else some ((false,()),())
noncomputable def f176 (x0:(Int×(Int×(Int×Unit)))) (x1:Int):Bool :=
bif (decide (x0.1≤x1)) then (decide (x1 < (wI (x0.1 + x0.2.1)))) else false
theorem n176 (x0:(Int×(Int×(Int×Unit)))) (x1:Int):g176 x0 x1 = some ((f176 x0 x1,()),()):=by simp only [g176,f176,pull1]
noncomputable def c176:Ctr:={ ins:=[.v Ty61,.rf (.int .i64)],out:=[.bool],F:=fun x=>some ((f176 x.1 x.2.1,()),()) }
theorem o176:Holds Try.prog 176 c176:=f0T t176 (fun x=>g176 x.1 x.2.1) Try.func176 tn (fun x=>n176 x.1 x.2.1)
noncomputable def t172_176:Tbl:=[(176,[],c176)]
abbrev h172_176_L0:Shape:={ slots:=[(0,.v Ty67),(1,.clo 176 [(.int .i64)]),(7,.v (.int .i64)),(8,.v (.int .i64))],boxes:=[] }
abbrev e172_176_L0:List (XT×Shape):=[(.ret,{ slots:=[(4,.v (.int .i64))],boxes:=[] }),(.exit 0,{ slots:=[],boxes:=[] })]
noncomputable def q172_176_L0 (t0:Ta7) (t1:(Int×Unit)) (t7:Int) (t8:Int):Option (((Ta7×Ta11)×Unit)⊕(((Int×Unit)×Unit)⊕((Unit×Unit)⊕Empty))) :=
bif (decide (t8 < t7)) then bif (decide (0≤t8)&&decide (t8 < (t0.len:Int))) then bif (f176 (L.get t0 t8.toNat) t1.1) then some (.inr (.inl ((t8,()),()))) else some (.inl ((t0,(t1,(t7,((wI (t8 + (1:Int))),())))),())) else none else some (.inr (.inr (.inl ((),()))))
noncomputable def s172_176_L0 (x:((Ta7×Ta11)×Unit)):=q172_176_L0 x.1.1 x.1.2.1 x.1.2.2.1 x.1.2.2.2.1
noncomputable def a172_176:Nat→Option LoopAnn:=fun c=>bif Nat.beq c 0 then some (.fix h172_176_L0 e172_176_L0 s172_176_L0) else none
noncomputable def g172_176 (x0:Ta7) (x1:(Int×Unit)):Option ((Int×Unit)×Unit) :=
(fixO s172_176_L0 ((x0,(x1,((x0.len:Int),((0:Int),())))),())).bind fun d2=>match d2 with | .inl y1=>some ((y1.1.1,()),()) | .inr (.inl y1)=>some (((-1:Int),()),()) | .inr (.inr e)=>nomatch e
noncomputable def c172_176:Ctr:={ ins:=[.v Ty67,.clo 176 [(.int .i64)]],out:=[(.int .i64)],F:=fun x=>g172_176 x.1 x.2.1 }
noncomputable def l172_176:List (Nat×Code):=loopsIn (Try.f172.body.getD .skip) 0
theorem w172_176_L0:LW t172_176 a172_176 l172_176 0 0 h172_176_L0 e172_176_L0 s172_176_L0:=fun x=>by kernel_rfl
theorem o172_176:Holds Try.prog 172 c172_176:=fh t172_176 a172_176 Try.func172 [(0,lg l172_176 0)] ⟨fun x d h=>(w172_176_L0 x).trans h,trivial⟩ (tc o176 tn)
noncomputable def t173:Tbl:=[(172,[176],c172_176)]
noncomputable def g173 (x0:Ta7) (x1:Int):Option ((Int×Unit)×Unit) :=
(g172_176 x0 (x1,())).bind fun y1=>some ((y1.1.1,()),())
noncomputable def c173:Ctr:={ ins:=[.v Ty67,.v (.int .i64)],out:=[(.int .i64)],F:=fun x=>g173 x.1 x.2.1 }
theorem o173:Holds Try.prog 173 c173:=f0 t173 Try.func173 (tc o172_176 tn)
noncomputable def t154:Tbl:=[(173,[],c173)]
noncomputable def g154 (x0:Ta66) (x1:Int):Option ((Bool×Unit)×Unit) :=
(g173 x0.2.2.2.1 x1).bind fun y1=>bif (decide (y1.1.1 ≥ (0:Int))) then bif (decide (0≤y1.1.1)&&decide (y1.1.1 < (x0.2.2.2.1.len:Int))) then some ((((andOf .i64 (L.get x0.2.2.2.1 y1.1.1.toNat).2.2.1 (4:Int)) != (0:Int)),()),()) else none else some ((false,()),())
noncomputable def c154:Ctr:={ ins:=[.v Ty107,.v (.int .i64)],out:=[.bool],F:=fun x=>g154 x.1 x.2.1 }
theorem o154:Holds Try.prog 154 c154:=f0 t154 Try.func154 (tc o173 tn)
noncomputable def t122:Tbl:=[(147,[],c147),(148,[],c148),(149,[],c149),(61,[],c61),(150,[],c150),(151,[152],c151_152),(154,[],c154)]
abbrev h122_L2:Shape:={ slots:=[(1,.bx 1 0),(3,.ms 50003),(5,.bx 5 0),(9,.v Ty109),(10,.v (.int .i64)),(11,.v (.int .i64)),(42,.v Ty67),(43,.v (.int .i64)),(44,.v (.int .i64))],boxes:=[(1,.typ Ty150),(50003,.row Ty61),(5,.typ Ty107)] }
abbrev e122_L2:List (XT×Shape):=[(.ret,{ slots:=[(2,.v .bool)],boxes:=[] }),(.exit 2,{ slots:=[(1,.bx 1 0),(3,.ms 50003),(5,.bx 5 0),(9,.v Ty109),(10,.v (.int .i64)),(11,.v (.int .i64))],boxes:=[(1,.typ Ty150),(50003,.row Ty61),(5,.typ Ty107)] })]
noncomputable def q122_L2 (t9:Ta68) (t10:Int) (t11:Int) (t42:Ta7) (t43:Int) (t44:Int) (b1:Ta132) (r50003:Ta7) (b5:Ta66):Option (((Unit×(Unit×(Unit×(Ta68×(Int×Ta44)))))×Ta138)⊕(((Bool×Unit)×Unit)⊕(((Unit×(Unit×(Unit×Ta82)))×Ta138)⊕Empty))) :=
bif (decide (t44 < t43)) then bif (decide (0≤t44)&&decide (t44 < (t42.len:Int))) then bif (!(f150 (L.get t42 t44.toNat))) then some (.inr (.inl ((false,()),()))) else bif (decide ((wI ((L.get t42 t44.toNat).1 + (L.get t42 t44.toNat).2.1)) > b1.1)) then some (.inr (.inl ((false,()),()))) else (g151_152 r50003 ((L.get t42 t44.toNat),())).bind fun y3=>bif y3.1.1 then some (.inr (.inl ((false,()),()))) else bif (decide (r50003.len + (L.of (Ty.zero Ty61) [(L.get t42 t44.toNat)]).len≤most)) then some (.inl (((),((),((),(t9,(t10,(t11,(t42,(t43,((wI (t44 + (1:Int))),()))))))))),(b1,((L.app r50003 (L.of (Ty.zero Ty61) [(L.get t42 t44.toNat)])),(b5,()))))) else none else none else some (.inr (.inr (.inl (((),((),((),(t9,(t10,(t11,())))))),(b1,(r50003,(b5,())))))))
noncomputable def s122_L2 (x:((Unit×(Unit×(Unit×(Ta68×(Int×Ta44)))))×Ta138)):=q122_L2 x.1.2.2.2.1 x.1.2.2.2.2.1 x.1.2.2.2.2.2.1 x.1.2.2.2.2.2.2.1 x.1.2.2.2.2.2.2.2.1 x.1.2.2.2.2.2.2.2.2.1 x.2.1 x.2.2.1 x.2.2.2.1
abbrev h122_L0:Shape:={ slots:=[(1,.bx 1 0),(3,.row Ty61 50003),(9,.v Ty109),(10,.v (.int .i64)),(11,.v (.int .i64))],boxes:=[(1,.typ Ty150)] }
abbrev e122_L0:List (XT×Shape):=[(.ret,{ slots:=[(2,.v .bool)],boxes:=[] }),(.exit 0,{ slots:=[],boxes:=[] })]
noncomputable def q122_L0 (t3:Ta7) (t9:Ta68) (t10:Int) (t11:Int) (b1:Ta132):Option (((Unit×(Ta7×Ta82))×Ta133)⊕(((Bool×Unit)×Unit)⊕((Unit×Unit)⊕Empty))) :=
bif (decide (t11 < t10)) then bif (decide (0≤t11)&&decide (t11 < (t9.len:Int))) then (g147 (L.get t9 t11.toNat).1).bind fun y1=>bif (!y1.1.1) then some (.inr (.inl ((false,()),()))) else (g148 b1 (L.get t9 t11.toNat).1).bind fun y2=>bif (decide (y2.1.1 < t11)) then some (.inr (.inl ((false,()),()))) else bif (!(f149 (L.get t9 t11.toNat).2.2.1)) then some (.inr (.inl ((false,()),()))) else bif (!(f61 ((L.get t9 t11.toNat).2.2.2.1.len:Int) (1:Int) (4:Int))) then some (.inr (.inl ((false,()),()))) else ((fixO s122_L2 (((),((),((),(t9,(t10,(t11,((L.get t9 t11.toNat).2.2.2.1,(((L.get t9 t11.toNat).2.2.2.1.len:Int),((0:Int),()))))))))),(b1,(t3,((L.get t9 t11.toNat),()))))).bind fun d6=>match d6 with | .inl y4=>some (.inr (.inl y4)) | .inr (.inl y4)=>bif ((Int.tmod y4.2.2.2.1.2.1 (4:Int)) != (0:Int)) then some (.inr (.inl ((false,()),()))) else (g154 y4.2.2.2.1 y4.2.2.2.1.2.1).bind fun y5=>bif (!y5.1.1) then some (.inr (.inl ((false,()),()))) else some (.inl (((),(y4.2.2.1,(y4.1.2.2.2.1,(y4.1.2.2.2.2.1,((wI (y4.1.2.2.2.2.2.1 + (1:Int))),()))))),(y4.2.1,()))) | .inr (.inr e)=>nomatch e) else none else some (.inr (.inr (.inl ((),()))))
noncomputable def s122_L0 (x:((Unit×(Ta7×Ta82))×Ta133)):=q122_L0 x.1.2.1 x.1.2.2.1 x.1.2.2.2.1 x.1.2.2.2.2.1 x.2.1
noncomputable def a122:Nat→Option LoopAnn:=fun c=>bif Nat.beq c 2 then some (.fix h122_L2 e122_L2 s122_L2) else bif Nat.beq c 0 then some (.fix h122_L0 e122_L0 s122_L0) else none
noncomputable def g122 (x0:Ta132):Option ((Bool×Unit)×Unit) :=
(fixO s122_L0 (((),((nilL Ty61),(x0.2.2.2.2.2.2.2.1,((x0.2.2.2.2.2.2.2.1.len:Int),((0:Int),()))))),(x0,()))).bind fun d8=>match d8 with | .inl y7=>some ((y7.1.1,()),()) | .inr (.inl y7)=>some ((true,()),()) | .inr (.inr e)=>nomatch e
noncomputable def c122:Ctr:={ ins:=[.v Ty150],out:=[.bool],F:=fun x=>g122 x.1 }
noncomputable def l122:List (Nat×Code):=loopsIn (Try.f122.body.getD .skip) 0
theorem w122_L2:LW t122 a122 l122 1 2 h122_L2 e122_L2 s122_L2:=fun x=>by kernel_rfl
theorem w122_L0:LW t122 a122 l122 0 0 h122_L0 e122_L0 s122_L0:=fun x=>by kernel_rfl
theorem o122:Holds Try.prog 122 c122:=fh t122 a122 Try.func122 [(0,lg l122 0),(2,lg l122 1)] ⟨fun x d h=>(w122_L0 x).trans h,fun x d h=>(w122_L2 x).trans h,trivial⟩ (tc o147 (tc o148 (tc o149 (tc o61 (tc o150 (tc o151_152 (tc o154 tn)))))))
noncomputable def t124:Tbl:=[(61,[],c61)]
noncomputable def g124 (x0:Int) (x1:Int):Option ((Bool×Unit)×Unit) :=
some (((!(f61 x0 (0:Int) (wI (x1 - (1:Int))))),()),())
noncomputable def f124 (x0:Int) (x1:Int):Bool :=
(!(f61 x0 (0:Int) (wI (x1 - (1:Int)))))
theorem n124 (x0:Int) (x1:Int):g124 x0 x1 = some ((f124 x0 x1,()),()):=by simp only [g124,f124,pull1]
noncomputable def c124:Ctr:={ ins:=[.v (.int .i64),.rf (.int .i64)],out:=[.bool],F:=fun x=>some ((f124 x.1 x.2.1,()),()) }
theorem o124:Holds Try.prog 124 c124:=f0T t124 (fun x=>g124 x.1 x.2.1) Try.func124 (tc o61 tn) (fun x=>n124 x.1 x.2.1)
noncomputable def t155_124:Tbl:=[(124,[],c124)]
abbrev h155_124_L0:Shape:={ slots:=[(0,.v (.sl (.int .i64))),(1,.clo 124 [(.int .i64)]),(7,.v (.int .i64)),(8,.v (.int .i64))],boxes:=[] }
abbrev e155_124_L0:List (XT×Shape):=[(.ret,{ slots:=[(4,.v (.int .i64))],boxes:=[] }),(.exit 0,{ slots:=[],boxes:=[] })]
noncomputable def q155_124_L0 (t0:(L Int)) (t1:(Int×Unit)) (t7:Int) (t8:Int):Option ((((L Int)×Ta11)×Unit)⊕(((Int×Unit)×Unit)⊕((Unit×Unit)⊕Empty))) :=
bif (decide (t8 < t7)) then bif (decide (0≤t8)&&decide (t8 < (t0.len:Int))) then bif (f124 (L.get t0 t8.toNat) t1.1) then some (.inr (.inl ((t8,()),()))) else some (.inl ((t0,(t1,(t7,((wI (t8 + (1:Int))),())))),())) else none else some (.inr (.inr (.inl ((),()))))
noncomputable def s155_124_L0 (x:(((L Int)×Ta11)×Unit)):=q155_124_L0 x.1.1 x.1.2.1 x.1.2.2.1 x.1.2.2.2.1
noncomputable def a155_124:Nat→Option LoopAnn:=fun c=>bif Nat.beq c 0 then some (.fix h155_124_L0 e155_124_L0 s155_124_L0) else none
noncomputable def g155_124 (x0:(L Int)) (x1:(Int×Unit)):Option ((Int×Unit)×Unit) :=
(fixO s155_124_L0 ((x0,(x1,((x0.len:Int),((0:Int),())))),())).bind fun d2=>match d2 with | .inl y1=>some ((y1.1.1,()),()) | .inr (.inl y1)=>some (((-1:Int),()),()) | .inr (.inr e)=>nomatch e
noncomputable def c155_124:Ctr:={ ins:=[.v (.sl (.int .i64)),.clo 124 [(.int .i64)]],out:=[(.int .i64)],F:=fun x=>g155_124 x.1 x.2.1 }
noncomputable def l155_124:List (Nat×Code):=loopsIn (Try.f155.body.getD .skip) 0
theorem w155_124_L0:LW t155_124 a155_124 l155_124 0 0 h155_124_L0 e155_124_L0 s155_124_L0:=fun x=>by kernel_rfl
theorem o155_124:Holds Try.prog 155 c155_124:=fh t155_124 a155_124 Try.func155 [(0,lg l155_124 0)] ⟨fun x d h=>(w155_124_L0 x).trans h,trivial⟩ (tc o124 tn)
noncomputable def t123_124:Tbl:=[(155,[124],c155_124)]
noncomputable def g123_124 (x0:(L Int)) (x1:(Int×Unit)):Option ((Bool×Unit)×Unit) :=
(g155_124 x0 x1).bind fun y1=>some (((decide (y1.1.1 ≥ (0:Int))),()),())
noncomputable def c123_124:Ctr:={ ins:=[.v (.sl (.int .i64)),.clo 124 [(.int .i64)]],out:=[.bool],F:=fun x=>g123_124 x.1 x.2.1 }
theorem o123_124:Holds Try.prog 123 c123_124:=f0 t123_124 Try.func123 (tc o155_124 tn)
noncomputable def t127:Tbl:=[(61,[],c61)]
noncomputable def g127 (x0:Ta8):Option ((Bool×Unit)×Unit) :=
bif (!(f61 x0.2.1 (0:Int) (5:Int))) then some ((false,()),()) else bif (!(f61 x0.2.2.1 (0:Int) (5:Int))) then some ((false,()),()) else bif (x0.2.1 == x0.2.2.1) then some ((false,()),()) else bif (x0.1 == (0:Int)) then bif (x0.2.2.2.1 == (0:Int)) then some ((true,()),()) else bif (x0.1 == (1:Int)) then some (((f61 x0.2.2.2.1 (1:Int) (8:Int)),()),()) else some ((false,()),()) else bif (x0.1 == (1:Int)) then some (((f61 x0.2.2.2.1 (1:Int) (8:Int)),()),()) else some ((false,()),())
noncomputable def f127 (x0:Ta8):Bool :=
bif (!(f61 x0.2.1 (0:Int) (5:Int))) then false else bif (!(f61 x0.2.2.1 (0:Int) (5:Int))) then false else bif (x0.2.1 == x0.2.2.1) then false else bif (x0.1 == (0:Int)) then bif (x0.2.2.2.1 == (0:Int)) then true else bif (x0.1 == (1:Int)) then (f61 x0.2.2.2.1 (1:Int) (8:Int)) else false else bif (x0.1 == (1:Int)) then (f61 x0.2.2.2.1 (1:Int) (8:Int)) else false
theorem n127 (x0:Ta8):g127 x0 = some ((f127 x0,()),()):=by simp only [g127,f127,pull1]
noncomputable def c127:Ctr:={ ins:=[.v Ty77],out:=[.bool],F:=fun x=>some ((f127 x.1,()),()) }
theorem o127:Holds Try.prog 127 c127:=f0T t127 (fun x=>g127 x.1) Try.func127 (tc o61 tn) (fun x=>n127 x.1)
noncomputable def t126:Tbl:=[(127,[],c127)]
noncomputable def g126 (x0:Ta8) (x1:Int):Option ((Bool×Unit)×Unit) :=
bif (!(f127 x0)) then some ((true,()),()) else bif (decide (x0.2.1 ≥ x1)) then some ((true,()),()) else some (((decide (x0.2.2.1 ≥ x1)),()),())
noncomputable def f126 (x0:Ta8) (x1:Int):Bool :=
bif (!(f127 x0)) then true else bif (decide (x0.2.1 ≥ x1)) then true else (decide (x0.2.2.1 ≥ x1))
theorem n126 (x0:Ta8) (x1:Int):g126 x0 x1 = some ((f126 x0 x1,()),()):=by simp only [g126,f126,pull1]
noncomputable def c126:Ctr:={ ins:=[.v Ty77,.rf (.int .i64)],out:=[.bool],F:=fun x=>some ((f126 x.1 x.2.1,()),()) }
theorem o126:Holds Try.prog 126 c126:=f0T t126 (fun x=>g126 x.1 x.2.1) Try.func126 (tc o127 tn) (fun x=>n126 x.1 x.2.1)
noncomputable def t156_126:Tbl:=[(126,[],c126)]
abbrev h156_126_L0:Shape:={ slots:=[(0,.v Ty80),(1,.clo 126 [(.int .i64)]),(7,.v (.int .i64)),(8,.v (.int .i64))],boxes:=[] }
abbrev e156_126_L0:List (XT×Shape):=[(.ret,{ slots:=[(4,.v (.int .i64))],boxes:=[] }),(.exit 0,{ slots:=[],boxes:=[] })]
noncomputable def q156_126_L0 (t0:Ta14) (t1:(Int×Unit)) (t7:Int) (t8:Int):Option (((Ta14×Ta11)×Unit)⊕(((Int×Unit)×Unit)⊕((Unit×Unit)⊕Empty))) :=
bif (decide (t8 < t7)) then bif (decide (0≤t8)&&decide (t8 < (t0.len:Int))) then bif (f126 (L.get t0 t8.toNat) t1.1) then some (.inr (.inl ((t8,()),()))) else some (.inl ((t0,(t1,(t7,((wI (t8 + (1:Int))),())))),())) else none else some (.inr (.inr (.inl ((),()))))
noncomputable def s156_126_L0 (x:((Ta14×Ta11)×Unit)):=q156_126_L0 x.1.1 x.1.2.1 x.1.2.2.1 x.1.2.2.2.1
noncomputable def a156_126:Nat→Option LoopAnn:=fun c=>bif Nat.beq c 0 then some (.fix h156_126_L0 e156_126_L0 s156_126_L0) else none
noncomputable def g156_126 (x0:Ta14) (x1:(Int×Unit)):Option ((Int×Unit)×Unit) :=
(fixO s156_126_L0 ((x0,(x1,((x0.len:Int),((0:Int),())))),())).bind fun d2=>match d2 with | .inl y1=>some ((y1.1.1,()),()) | .inr (.inl y1)=>some (((-1:Int),()),()) | .inr (.inr e)=>nomatch e
noncomputable def c156_126:Ctr:={ ins:=[.v Ty80,.clo 126 [(.int .i64)]],out:=[(.int .i64)],F:=fun x=>g156_126 x.1 x.2.1 }
noncomputable def l156_126:List (Nat×Code):=loopsIn (Try.f156.body.getD .skip) 0
theorem w156_126_L0:LW t156_126 a156_126 l156_126 0 0 h156_126_L0 e156_126_L0 s156_126_L0:=fun x=>by kernel_rfl
theorem o156_126:Holds Try.prog 156 c156_126:=fh t156_126 a156_126 Try.func156 [(0,lg l156_126 0)] ⟨fun x d h=>(w156_126_L0 x).trans h,trivial⟩ (tc o126 tn)
noncomputable def t125_126:Tbl:=[(156,[126],c156_126)]
noncomputable def g125_126 (x0:Ta14) (x1:(Int×Unit)):Option ((Bool×Unit)×Unit) :=
(g156_126 x0 x1).bind fun y1=>some (((decide (y1.1.1 ≥ (0:Int))),()),())
noncomputable def c125_126:Ctr:={ ins:=[.v Ty80,.clo 126 [(.int .i64)]],out:=[.bool],F:=fun x=>g125_126 x.1 x.2.1 }
theorem o125_126:Holds Try.prog 125 c125_126:=f0 t125_126 Try.func125 (tc o156_126 tn)
noncomputable def t136:Tbl:=[]
noncomputable def g136 (x0:Ta8):Option ((Int×Unit)×Unit) :=
some (((if x0.2.2.2.1 > (1:Int) then x0.2.2.2.1 else (1:Int)),()),())
noncomputable def f136 (x0:Ta8):Int :=
(if x0.2.2.2.1 > (1:Int) then x0.2.2.2.1 else (1:Int))
theorem n136 (x0:Ta8):g136 x0 = some ((f136 x0,()),()):=by simp only [g136,f136,pull1]
noncomputable def c136:Ctr:={ ins:=[.v Ty77],out:=[(.int .i64)],F:=fun x=>some ((f136 x.1,()),()) }
theorem o136:Holds Try.prog 136 c136:=f0T t136 (fun x=>g136 x.1) Try.func136 tn (fun x=>n136 x.1)
noncomputable def t107:Tbl:=[(136,[],c136)]
abbrev h107_L0:Shape:={ slots:=[(3,.bx 3 0),(7,.v (.int .i64)),(22,.v Ty80),(23,.v (.int .i64)),(24,.v (.int .i64))],boxes:=[(3,.typ Ty101)] }
abbrev e107_L0:List (XT×Shape):=[(.exit 0,{ slots:=[(7,.v (.int .i64))],boxes:=[] })]
noncomputable def q107_L0 (t7:Int) (t22:Ta14) (t23:Int) (t24:Int) (b3:Ta37):Option (((Unit×Ta54)×Ta49)⊕(((Int×Unit)×Unit)⊕Empty)) :=
bif (decide (t24 < t23)) then bif (decide (0≤t24)&&decide (t24 < (t22.len:Int))) then some (.inl (((),((wI (t7 + (wI (b3.1 * (f136 (L.get t22 t24.toNat)))))),(t22,(t23,((wI (t24 + (1:Int))),()))))),(b3,()))) else none else some (.inr (.inl ((t7,()),())))
noncomputable def s107_L0 (x:((Unit×Ta54)×Ta49)):=q107_L0 x.1.2.1 x.1.2.2.1 x.1.2.2.2.1 x.1.2.2.2.2.1 x.2.1
noncomputable def a107:Nat→Option LoopAnn:=fun c=>bif Nat.beq c 0 then some (.fix h107_L0 e107_L0 s107_L0) else none
noncomputable def g107 (x0:Ta37) (x1:(Int×(Int×(Int×Unit)))) (x2:Ta14):Option ((Int×Unit)×Unit) :=
(fixO s107_L0 (((),((wI ((wI ((16:Int) * x0.1)) + (wI ((wI (x1.1 * x1.2.1)) * x0.2.2.2.2.2.2.1)))),(x2,((x2.len:Int),((0:Int),()))))),(x0,()))).bind fun d2=>match d2 with | .inl y1=>some ((y1.1.1,()),()) | .inr e=>nomatch e
noncomputable def c107:Ctr:={ ins:=[.v Ty101,.v Ty61,.v Ty80],out:=[(.int .i64)],F:=fun x=>g107 x.1 x.2.1 x.2.2.1 }
noncomputable def l107:List (Nat×Code):=loopsIn (Try.f107.body.getD .skip) 0
theorem w107_L0:LW t107 a107 l107 0 0 h107_L0 e107_L0 s107_L0:=fun x=>by kernel_rfl
theorem o107:Holds Try.prog 107 c107:=fh t107 a107 Try.func107 [(0,lg l107 0)] ⟨fun x d h=>(w107_L0 x).trans h,trivial⟩ (tc o136 tn)
noncomputable def t157:Tbl:=[]
noncomputable def g157 (x0:Ta132) (x1:(Int×(Int×(Int×Unit)))) (x2:Int):Option ((Bool×Unit)×Unit) :=
bif (decide (x1.2.2.1 > (wI (x0.2.2.2.2.1 + x0.2.2.2.2.2.1)))) then bif (decide (x1.2.2.1≤x0.2.2.2.2.2.2.1)) then bif (decide (x1.2.1 ≥ x2)) then some (((decide (x1.2.1≤(wI (x0.2.2.2.2.2.2.1 - x1.2.2.1)))),()),()) else some ((false,()),()) else some ((false,()),()) else some ((false,()),())
noncomputable def f157 (x0:Ta132) (x1:(Int×(Int×(Int×Unit)))) (x2:Int):Bool :=
bif (decide (x1.2.2.1 > (wI (x0.2.2.2.2.1 + x0.2.2.2.2.2.1)))) then bif (decide (x1.2.2.1≤x0.2.2.2.2.2.2.1)) then bif (decide (x1.2.1 ≥ x2)) then (decide (x1.2.1≤(wI (x0.2.2.2.2.2.2.1 - x1.2.2.1)))) else false else false else false
theorem n157 (x0:Ta132) (x1:(Int×(Int×(Int×Unit)))) (x2:Int):g157 x0 x1 x2 = some ((f157 x0 x1 x2,()),()):=by simp only [g157,f157,pull1]
noncomputable def c157:Ctr:={ ins:=[.v Ty150,.v Ty61,.v (.int .i64)],out:=[.bool],F:=fun x=>some ((f157 x.1 x.2.1 x.2.2.1,()),()) }
theorem o157:Holds Try.prog 157 c157:=f0T t157 (fun x=>g157 x.1 x.2.1 x.2.2.1) Try.func157 tn (fun x=>n157 x.1 x.2.1 x.2.2.1)
noncomputable def t128:Tbl:=[(61,[],c61),(157,[],c157)]
abbrev h128_L0:Shape:={ slots:=[(1,.bx 1 0),(3,.v (.int .i64)),(7,.v Ty67),(8,.v (.int .i64)),(9,.v (.int .i64))],boxes:=[(1,.typ Ty150)] }
abbrev e128_L0:List (XT×Shape):=[(.ret,{ slots:=[(2,.v .bool)],boxes:=[] }),(.exit 0,{ slots:=[(1,.bx 1 0)],boxes:=[(1,.typ Ty150)] })]
noncomputable def q128_L0 (t3:Int) (t7:Ta7) (t8:Int) (t9:Int) (b1:Ta132):Option (((Unit×Ta44)×Ta133)⊕(((Bool×Unit)×Unit)⊕(Ta134⊕Empty))) :=
bif (decide (t9 < t8)) then bif (decide (0≤t9)&&decide (t9 < (t7.len:Int))) then bif (!(f61 (L.get t7 t9.toNat).1 (0:Int) (wI ((b1.2.2.2.2.2.2.2.1.len:Int) - (1:Int))))) then some (.inr (.inl ((false,()),()))) else bif (!(f157 b1 (L.get t7 t9.toNat) t3)) then some (.inr (.inl ((false,()),()))) else some (.inl (((),((wI ((L.get t7 t9.toNat).2.1 + (L.get t7 t9.toNat).2.2.1)),(t7,(t8,((wI (t9 + (1:Int))),()))))),(b1,()))) else none else some (.inr (.inr (.inl (((),()),(b1,())))))
noncomputable def s128_L0 (x:((Unit×Ta44)×Ta133)):=q128_L0 x.1.2.1 x.1.2.2.1 x.1.2.2.2.1 x.1.2.2.2.2.1 x.2.1
noncomputable def a128:Nat→Option LoopAnn:=fun c=>bif Nat.beq c 0 then some (.fix h128_L0 e128_L0 s128_L0) else none
noncomputable def g128 (x0:Ta132):Option ((Bool×Unit)×Unit) :=
(fixO s128_L0 (((),((0:Int),(x0.2.2.2.2.2.2.2.2.2.2.1,((x0.2.2.2.2.2.2.2.2.2.2.1.len:Int),((0:Int),()))))),(x0,()))).bind fun d2=>match d2 with | .inl y1=>some ((y1.1.1,()),()) | .inr (.inl y1)=>some (((f61 (y1.2.1.2.2.2.2.2.2.2.2.2.2.1.len:Int) (1:Int) (16:Int)),()),()) | .inr (.inr e)=>nomatch e
noncomputable def c128:Ctr:={ ins:=[.v Ty150],out:=[.bool],F:=fun x=>g128 x.1 }
noncomputable def l128:List (Nat×Code):=loopsIn (Try.f128.body.getD .skip) 0
theorem w128_L0:LW t128 a128 l128 0 0 h128_L0 e128_L0 s128_L0:=fun x=>by kernel_rfl
theorem o128:Holds Try.prog 128 c128:=fh t128 a128 Try.func128 [(0,lg l128 0)] ⟨fun x d h=>(w128_L0 x).trans h,trivial⟩ (tc o61 (tc o157 tn))
noncomputable def t89:Tbl:=[(117,[],c117),(118,[],c118),(61,[],c61),(119,[],c119),(120,[],c120),(121,[],c121),(122,[],c122),(123,[124],c123_124),(125,[126],c125_126),(107,[],c107),(128,[],c128)]
noncomputable def g89 (x0:Ta132):Option ((Bool×Unit)×Unit) :=
bif (!(f117 x0.1)) then some ((false,()),()) else bif (!(f118 x0.2.1)) then some ((false,()),()) else bif (!(f61 x0.2.2.1 (1:Int) (8:Int))) then some ((false,()),()) else bif (!(f119 x0.2.2.2.1)) then some ((false,()),()) else bif (!(f120 x0.2.2.2.2.1)) then some ((false,()),()) else bif (!(f120 x0.2.2.2.2.2.1)) then some ((false,()),()) else bif (!(f120 x0.2.2.2.2.2.2.1)) then some ((false,()),()) else (g121 x0.2.2.2.1).bind fun y1=>bif (decide (x0.2.2.2.2.2.1 < y1.1.1)) then some ((false,()),()) else bif (!(f61 (x0.2.2.2.2.2.2.2.1.len:Int) (1:Int) (6:Int))) then some ((false,()),()) else (g122 x0).bind fun y2=>bif (!y2.1.1) then some ((false,()),()) else bif (decide ((x0.2.2.2.2.2.2.2.2.1.len:Int) > (8:Int))) then some ((false,()),()) else (g123_124 x0.2.2.2.2.2.2.2.2.1 ((x0.2.2.2.2.2.2.2.1.len:Int),())).bind fun y3=>bif y3.1.1 then some ((false,()),()) else bif (decide ((x0.2.2.2.2.2.2.2.2.2.1.len:Int) > (8:Int))) then some ((false,()),()) else (g125_126 x0.2.2.2.2.2.2.2.2.2.1 ((x0.2.2.2.2.2.2.2.1.len:Int),())).bind fun y4=>bif y4.1.1 then some ((false,()),()) else (g107 x0.2.2.2.1 x0.2.1 x0.2.2.2.2.2.2.2.2.2.1).bind fun y5=>bif (decide (x0.2.2.2.2.1 < y5.1.1)) then some ((false,()),()) else (g128 x0).bind fun y6=>some ((y6.1.1,()),())
noncomputable def c89:Ctr:={ ins:=[.v Ty150],out:=[.bool],F:=fun x=>g89 x.1 }
theorem o89:Holds Try.prog 89 c89:=f0 t89 Try.func89 (tc o117 (tc o118 (tc o61 (tc o119 (tc o120 (tc o121 (tc o122 (tc o123_124 (tc o125_126 (tc o107 (tc o128 tn)))))))))))
noncomputable def t134:Tbl:=[(61,[],c61)]
noncomputable def g134 (x0:Int):Option ((Bool×Unit)×Unit) :=
some (((f61 x0 (0:Int) (65535:Int)),()),())
noncomputable def f134 (x0:Int):Bool :=
(f61 x0 (0:Int) (65535:Int))
theorem n134 (x0:Int):g134 x0 = some ((f134 x0,()),()):=by simp only [g134,f134,pull1]
noncomputable def c134:Ctr:={ ins:=[.v (.int .i64)],out:=[.bool],F:=fun x=>some ((f134 x.1,()),()) }
theorem o134:Holds Try.prog 134 c134:=f0T t134 (fun x=>g134 x.1) Try.func134 (tc o61 tn) (fun x=>n134 x.1)
noncomputable def t160:Tbl:=[]
noncomputable def g160 (x0:(Int×(Bool×Unit))) (x1:Int):Option ((Bool×Unit)×Unit) :=
some (((x0.1 == x1),()),())
noncomputable def f160 (x0:(Int×(Bool×Unit))) (x1:Int):Bool :=
(x0.1 == x1)
theorem n160 (x0:(Int×(Bool×Unit))) (x1:Int):g160 x0 x1 = some ((f160 x0 x1,()),()):=by simp only [g160,f160,pull1]
noncomputable def c160:Ctr:={ ins:=[.v Ty26,.rf (.int .i64)],out:=[.bool],F:=fun x=>some ((f160 x.1 x.2.1,()),()) }
theorem o160:Holds Try.prog 160 c160:=f0T t160 (fun x=>g160 x.1 x.2.1) Try.func160 tn (fun x=>n160 x.1 x.2.1)
noncomputable def t159_160:Tbl:=[(160,[],c160)]
abbrev h159_160_L0:Shape:={ slots:=[(0,.v Ty35),(1,.clo 160 [(.int .i64)]),(7,.v (.int .i64)),(8,.v (.int .i64))],boxes:=[] }
abbrev e159_160_L0:List (XT×Shape):=[(.ret,{ slots:=[(4,.v (.int .i64))],boxes:=[] }),(.exit 0,{ slots:=[],boxes:=[] })]
noncomputable def q159_160_L0 (t0:(L (Int×(Bool×Unit)))) (t1:(Int×Unit)) (t7:Int) (t8:Int):Option ((((L (Int×(Bool×Unit)))×Ta11)×Unit)⊕(((Int×Unit)×Unit)⊕((Unit×Unit)⊕Empty))) :=
bif (decide (t8 < t7)) then bif (decide (0≤t8)&&decide (t8 < (t0.len:Int))) then bif (f160 (L.get t0 t8.toNat) t1.1) then some (.inr (.inl ((t8,()),()))) else some (.inl ((t0,(t1,(t7,((wI (t8 + (1:Int))),())))),())) else none else some (.inr (.inr (.inl ((),()))))
noncomputable def s159_160_L0 (x:(((L (Int×(Bool×Unit)))×Ta11)×Unit)):=q159_160_L0 x.1.1 x.1.2.1 x.1.2.2.1 x.1.2.2.2.1
noncomputable def a159_160:Nat→Option LoopAnn:=fun c=>bif Nat.beq c 0 then some (.fix h159_160_L0 e159_160_L0 s159_160_L0) else none
noncomputable def g159_160 (x0:(L (Int×(Bool×Unit)))) (x1:(Int×Unit)):Option ((Int×Unit)×Unit) :=
(fixO s159_160_L0 ((x0,(x1,((x0.len:Int),((0:Int),())))),())).bind fun d2=>match d2 with | .inl y1=>some ((y1.1.1,()),()) | .inr (.inl y1)=>some (((-1:Int),()),()) | .inr (.inr e)=>nomatch e
noncomputable def c159_160:Ctr:={ ins:=[.v Ty35,.clo 160 [(.int .i64)]],out:=[(.int .i64)],F:=fun x=>g159_160 x.1 x.2.1 }
noncomputable def l159_160:List (Nat×Code):=loopsIn (Try.f159.body.getD .skip) 0
theorem w159_160_L0:LW t159_160 a159_160 l159_160 0 0 h159_160_L0 e159_160_L0 s159_160_L0:=fun x=>by kernel_rfl
theorem o159_160:Holds Try.prog 159 c159_160:=fh t159_160 a159_160 Try.func159 [(0,lg l159_160 0)] ⟨fun x d h=>(w159_160_L0 x).trans h,trivial⟩ (tc o160 tn)
noncomputable def t135:Tbl:=[(159,[160],c159_160)]
noncomputable def g135 (x0:(L (Int×(Bool×Unit)))) (x1:Int):Option ((Int×Unit)×Unit) :=
(g159_160 x0 (x1,())).bind fun y1=>some ((y1.1.1,()),())
noncomputable def c135:Ctr:={ ins:=[.v Ty35,.v (.int .i64)],out:=[(.int .i64)],F:=fun x=>g135 x.1 x.2.1 }
theorem o135:Holds Try.prog 135 c135:=f0 t135 Try.func135 (tc o159_160 tn)
noncomputable def t98:Tbl:=[(118,[],c118),(134,[],c134),(135,[],c135)]
abbrev h98_L2:Shape:={ slots:=[(1,.bx 1 0),(4,.v Ty35),(21,.v Ty43),(22,.v (.int .i64)),(23,.v (.int .i64)),(33,.v Ty35),(34,.v (.int .i64)),(35,.v (.int .i64))],boxes:=[(1,.typ Ty99)] }
abbrev e98_L2:List (XT×Shape):=[(.ret,{ slots:=[(2,.v .bool)],boxes:=[] }),(.exit 2,{ slots:=[(1,.bx 1 0),(21,.v Ty43),(22,.v (.int .i64)),(23,.v (.int .i64))],boxes:=[(1,.typ Ty99)] })]
noncomputable def q98_L2 (t4:(L (Int×(Bool×Unit)))) (t21:Ta5) (t22:Int) (t23:Int) (t33:(L (Int×(Bool×Unit)))) (t34:Int) (t35:Int) (b1:Ta53):Option (((Unit×((L (Int×(Bool×Unit)))×Ta74))×Ta59)⊕(((Bool×Unit)×Unit)⊕(Ta93⊕Empty))) :=
bif (decide (t35 < t34)) then bif (decide (0≤t35)&&decide (t35 < (t33.len:Int))) then bif (!(f134 (L.get t33 t35.toNat).1)) then some (.inr (.inl ((false,()),()))) else (g135 t4 (L.get t33 t35.toNat).1).bind fun y1=>bif (decide (y1.1.1 < t35)) then some (.inr (.inl ((false,()),()))) else some (.inl (((),(t4,(t21,(t22,(t23,(t33,(t34,((wI (t35 + (1:Int))),())))))))),(b1,()))) else none else some (.inr (.inr (.inl (((),(t21,(t22,(t23,())))),(b1,())))))
noncomputable def s98_L2 (x:((Unit×((L (Int×(Bool×Unit)))×Ta74))×Ta59)):=q98_L2 x.1.2.1 x.1.2.2.1 x.1.2.2.2.1 x.1.2.2.2.2.1 x.1.2.2.2.2.2.1 x.1.2.2.2.2.2.2.1 x.1.2.2.2.2.2.2.2.1 x.2.1
abbrev h98_L0:Shape:={ slots:=[(1,.bx 1 0),(21,.v Ty43),(22,.v (.int .i64)),(23,.v (.int .i64))],boxes:=[(1,.typ Ty99)] }
abbrev e98_L0:List (XT×Shape):=[(.ret,{ slots:=[(2,.v .bool)],boxes:=[] }),(.exit 0,{ slots:=[],boxes:=[] })]
noncomputable def q98_L0 (t21:Ta5) (t22:Int) (t23:Int) (b1:Ta53):Option (Ta93⊕(((Bool×Unit)×Unit)⊕((Unit×Unit)⊕Empty))) :=
bif (decide (t23 < t22)) then bif (decide (0≤t23)&&decide (t23 < (t21.len:Int))) then bif (decide (((L.get t21 t23.toNat).len:Int) > b1.1.2.1)) then some (.inr (.inl ((false,()),()))) else ((fixO s98_L2 (((),((L.get t21 t23.toNat),(t21,(t22,(t23,((L.get t21 t23.toNat),(((L.get t21 t23.toNat).len:Int),((0:Int),())))))))),(b1,()))).bind fun d3=>match d3 with | .inl y2=>some (.inr (.inl y2)) | .inr (.inl y2)=>some (.inl (((),(y2.1.2.1,(y2.1.2.2.1,((wI (y2.1.2.2.2.1 + (1:Int))),())))),y2.2)) | .inr (.inr e)=>nomatch e) else none else some (.inr (.inr (.inl ((),()))))
noncomputable def s98_L0 (x:Ta93):=q98_L0 x.1.2.1 x.1.2.2.1 x.1.2.2.2.1 x.2.1
noncomputable def a98:Nat→Option LoopAnn:=fun c=>bif Nat.beq c 2 then some (.fix h98_L2 e98_L2 s98_L2) else bif Nat.beq c 0 then some (.fix h98_L0 e98_L0 s98_L0) else none
noncomputable def g98 (x0:Ta53):Option ((Bool×Unit)×Unit) :=
bif (!(f118 x0.1)) then some ((false,()),()) else bif ((x0.2.1.len:Int) != x0.1.1) then some ((false,()),()) else (fixO s98_L0 (((),(x0.2.1,((x0.2.1.len:Int),((0:Int),())))),(x0,()))).bind fun d5=>match d5 with | .inl y4=>some ((y4.1.1,()),()) | .inr (.inl y4)=>some ((true,()),()) | .inr (.inr e)=>nomatch e
noncomputable def c98:Ctr:={ ins:=[.v Ty99],out:=[.bool],F:=fun x=>g98 x.1 }
noncomputable def l98:List (Nat×Code):=loopsIn (Try.f98.body.getD .skip) 0
theorem w98_L2:LW t98 a98 l98 1 2 h98_L2 e98_L2 s98_L2:=fun x=>by kernel_rfl
theorem w98_L0:LW t98 a98 l98 0 0 h98_L0 e98_L0 s98_L0:=fun x=>by kernel_rfl
theorem o98:Holds Try.prog 98 c98:=fh t98 a98 Try.func98 [(0,lg l98 0),(2,lg l98 1)] ⟨fun x d h=>(w98_L0 x).trans h,fun x d h=>(w98_L2 x).trans h,trivial⟩ (tc o118 (tc o134 (tc o135 tn)))
noncomputable def t99:Tbl:=[(136,[],c136)]
abbrev h99_L0:Shape:={ slots:=[(3,.v (.int .i64)),(7,.v Ty80),(8,.v (.int .i64)),(9,.v (.int .i64))],boxes:=[] }
abbrev e99_L0:List (XT×Shape):=[(.exit 0,{ slots:=[(3,.v (.int .i64))],boxes:=[] })]
noncomputable def q99_L0 (t3:Int) (t7:Ta14) (t8:Int) (t9:Int):Option ((Ta54×Unit)⊕(((Int×Unit)×Unit)⊕Empty)) :=
bif (decide (t9 < t8)) then bif (decide (0≤t9)&&decide (t9 < (t7.len:Int))) then some (.inl (((wI (t3 + (f136 (L.get t7 t9.toNat)))),(t7,(t8,((wI (t9 + (1:Int))),())))),())) else none else some (.inr (.inl ((t3,()),())))
noncomputable def s99_L0 (x:(Ta54×Unit)):=q99_L0 x.1.1 x.1.2.1 x.1.2.2.1 x.1.2.2.2.1
noncomputable def a99:Nat→Option LoopAnn:=fun c=>bif Nat.beq c 0 then some (.fix h99_L0 e99_L0 s99_L0) else none
noncomputable def g99 (x0:Ta132):Option ((Int×Unit)×Unit) :=
(fixO s99_L0 (((0:Int),(x0.2.2.2.2.2.2.2.2.2.1,((x0.2.2.2.2.2.2.2.2.2.1.len:Int),((0:Int),())))),())).bind fun d2=>match d2 with | .inl y1=>some ((y1.1.1,()),()) | .inr e=>nomatch e
noncomputable def c99:Ctr:={ ins:=[.v Ty150],out:=[(.int .i64)],F:=fun x=>g99 x.1 }
noncomputable def l99:List (Nat×Code):=loopsIn (Try.f99.body.getD .skip) 0
theorem w99_L0:LW t99 a99 l99 0 0 h99_L0 e99_L0 s99_L0:=fun x=>by kernel_rfl
theorem o99:Holds Try.prog 99 c99:=fh t99 a99 Try.func99 [(0,lg l99 0)] ⟨fun x d h=>(w99_L0 x).trans h,trivial⟩ (tc o136 tn)
noncomputable def t137:Tbl:=[]
abbrev h137_L2:Shape:={ slots:=[(3,.v (.int .i64)),(9,.v Ty43),(10,.v (.int .i64)),(11,.v (.int .i64)),(15,.v Ty35),(16,.v (.int .i64)),(17,.v (.int .i64))],boxes:=[] }
abbrev e137_L2:List (XT×Shape):=[(.exit 2,{ slots:=[(3,.v (.int .i64)),(9,.v Ty43),(10,.v (.int .i64)),(11,.v (.int .i64))],boxes:=[] })]
noncomputable def q137_L2 (t3:Int) (t9:Ta5) (t10:Int) (t11:Int) (t15:(L (Int×(Bool×Unit)))) (t16:Int) (t17:Int):Option (((Int×Ta74)×Unit)⊕(Ta55⊕Empty)) :=
bif (decide (t17 < t16)) then bif (decide (0≤t17)&&decide (t17 < (t15.len:Int))) then bif (L.get t15 t17.toNat).2.1 then some (.inl (((wI (t3 + (1:Int))),(t9,(t10,(t11,(t15,(t16,((wI (t17 + (1:Int))),()))))))),())) else some (.inl ((t3,(t9,(t10,(t11,(t15,(t16,((wI (t17 + (1:Int))),()))))))),())) else none else some (.inr (.inl ((t3,(t9,(t10,(t11,())))),())))
noncomputable def s137_L2 (x:((Int×Ta74)×Unit)):=q137_L2 x.1.1 x.1.2.1 x.1.2.2.1 x.1.2.2.2.1 x.1.2.2.2.2.1 x.1.2.2.2.2.2.1 x.1.2.2.2.2.2.2.1
abbrev h137_L0:Shape:={ slots:=[(3,.v (.int .i64)),(9,.v Ty43),(10,.v (.int .i64)),(11,.v (.int .i64))],boxes:=[] }
abbrev e137_L0:List (XT×Shape):=[(.exit 0,{ slots:=[(3,.v (.int .i64))],boxes:=[] })]
noncomputable def q137_L0 (t3:Int) (t9:Ta5) (t10:Int) (t11:Int):Option (Ta55⊕(((Int×Unit)×Unit)⊕Empty)) :=
bif (decide (t11 < t10)) then bif (decide (0≤t11)&&decide (t11 < (t9.len:Int))) then ((fixO s137_L2 ((t3,(t9,(t10,(t11,((L.get t9 t11.toNat),(((L.get t9 t11.toNat).len:Int),((0:Int),()))))))),())).bind fun d2=>match d2 with | .inl y1=>some (.inl ((y1.1.1,(y1.1.2.1,(y1.1.2.2.1,((wI (y1.1.2.2.2.1 + (1:Int))),())))),())) | .inr e=>nomatch e) else none else some (.inr (.inl ((t3,()),())))
noncomputable def s137_L0 (x:Ta55):=q137_L0 x.1.1 x.1.2.1 x.1.2.2.1 x.1.2.2.2.1
noncomputable def a137:Nat→Option LoopAnn:=fun c=>bif Nat.beq c 2 then some (.fix h137_L2 e137_L2 s137_L2) else bif Nat.beq c 0 then some (.fix h137_L0 e137_L0 s137_L0) else none
noncomputable def g137 (x0:Ta53):Option ((Int×Unit)×Unit) :=
(fixO s137_L0 (((0:Int),(x0.2.1,((x0.2.1.len:Int),((0:Int),())))),())).bind fun d4=>match d4 with | .inl y3=>some ((y3.1.1,()),()) | .inr e=>nomatch e
noncomputable def c137:Ctr:={ ins:=[.v Ty99],out:=[(.int .i64)],F:=fun x=>g137 x.1 }
noncomputable def l137:List (Nat×Code):=loopsIn (Try.f137.body.getD .skip) 0
theorem w137_L2:LW t137 a137 l137 1 2 h137_L2 e137_L2 s137_L2:=fun x=>by kernel_rfl
theorem w137_L0:LW t137 a137 l137 0 0 h137_L0 e137_L0 s137_L0:=fun x=>by kernel_rfl
theorem o137:Holds Try.prog 137 c137:=fh t137 a137 Try.func137 [(0,lg l137 0),(2,lg l137 1)] ⟨fun x d h=>(w137_L0 x).trans h,fun x d h=>(w137_L2 x).trans h,trivial⟩ tn
noncomputable def t100:Tbl:=[(137,[],c137)]
noncomputable def g100 (x0:Ta132) (x1:Ta53) (x2:Int):Option (Ta21×Unit) :=
(g137 x1).bind fun y1=>some ((((wI (x0.2.2.2.1.2.2.2.2.2.2.1 * y1.1.1)),((wI ((16:Int) * x0.2.2.2.1.1)),((wI (x0.2.2.2.1.1 * x2)),((wI ((wI ((wI (x0.2.2.2.2.1 - (wI (x0.2.2.2.1.2.2.2.2.2.2.1 * y1.1.1)))) - (wI ((16:Int) * x0.2.2.2.1.1)))) - (wI (x0.2.2.2.1.1 * x2)))),())))),()),())
noncomputable def c100:Ctr:={ ins:=[.v Ty150,.v Ty99,.v (.int .i64)],out:=[Ty77],F:=fun x=>g100 x.1 x.2.1 x.2.2.1 }
theorem o100:Holds Try.prog 100 c100:=f0 t100 Try.func100 (tc o137 tn)
noncomputable def t52:Tbl:=[(89,[],c89),(98,[],c98),(99,[],c99),(61,[],c61),(100,[],c100)]
noncomputable def g52 (x0:Ta132) (x1:Ta53) (x2:Int):Option (Ta21×Unit) :=
(g89 x0).bind fun y1=>bif (!y1.1.1) then some ((((0:Int),((0:Int),((0:Int),((0:Int),())))),()),()) else (g98 x1).bind fun y2=>bif (!y2.1.1) then some ((((0:Int),((0:Int),((0:Int),((0:Int),())))),()),()) else bif (!((x1.1.1 == x0.2.1.1)&&((x1.1.2.1 == x0.2.1.2.1)&&((x1.1.2.2.1 == x0.2.1.2.2.1)&&true)))) then some ((((0:Int),((0:Int),((0:Int),((0:Int),())))),()),()) else (g99 x0).bind fun y3=>bif (!(f61 x2 (0:Int) y3.1.1)) then some ((((0:Int),((0:Int),((0:Int),((0:Int),())))),()),()) else (g100 x0 x1 x2).bind fun y4=>some ((y4.1.1,()),())
noncomputable def c52:Ctr:={ ins:=[.v Ty150,.v Ty99,.v (.int .i64)],out:=[Ty77],F:=fun x=>g52 x.1 x.2.1 x.2.2.1 }
theorem o52:Holds Try.prog 52 c52:=f0 t52 Try.func52 (tc o89 (tc o98 (tc o99 (tc o61 (tc o100 tn)))))
noncomputable def t56:Tbl:=[]
noncomputable def g56 (x0:Ta8):Option ((Int×Unit)×Unit) :=
some (((wI ((wI ((wI (x0.1 + x0.2.1)) + x0.2.2.1)) + x0.2.2.2.1)),()),())
noncomputable def f56 (x0:Ta8):Int :=
(wI ((wI ((wI (x0.1 + x0.2.1)) + x0.2.2.1)) + x0.2.2.2.1))
theorem n56 (x0:Ta8):g56 x0 = some ((f56 x0,()),()):=by simp only [g56,f56,pull1]
noncomputable def c56:Ctr:={ ins:=[.v Ty77],out:=[(.int .i64)],F:=fun x=>some ((f56 x.1,()),()) }
theorem o56:Holds Try.prog 56 c56:=f0T t56 (fun x=>g56 x.1) Try.func56 tn (fun x=>n56 x.1)
noncomputable def t54:Tbl:=[(105,[],c105),(60,[],c60)]
abbrev h54_L4:Shape:={ slots:=[(1,.bx 1 0),(3,.v (.int .i64)),(4,.v Ty35),(5,.v (.int .i64)),(6,.v (.int .i64))],boxes:=[(1,.typ Ty99)] }
abbrev e54_L4:List (XT×Shape):=[(.ret,{ slots:=[(2,.v .bool)],boxes:=[] }),(.exit 4,{ slots:=[(1,.bx 1 0),(3,.v (.int .i64)),(4,.v Ty35),(5,.v (.int .i64))],boxes:=[(1,.typ Ty99)] })]
noncomputable def q54_L4 (t3:Int) (t4:(L (Int×(Bool×Unit)))) (t5:Int) (t6:Int) (b1:Ta53):Option (((Unit×Ta38)×Ta59)⊕(((Bool×Unit)×Unit)⊕(Ta91⊕Empty))) :=
bif (decide (t6 < t5)) then bif (decide (0≤t6)&&decide (t6 < (t4.len:Int))) then bif (decide (0≤t5)&&decide (t5 < (t4.len:Int))) then bif ((L.get t4 t6.toNat).1 == (L.get t4 t5.toNat).1) then some (.inr (.inl ((false,()),()))) else some (.inl (((),(t3,(t4,(t5,((wI (t6 + (1:Int))),()))))),(b1,()))) else none else none else some (.inr (.inr (.inl (((),(t3,(t4,(t5,())))),(b1,())))))
noncomputable def s54_L4 (x:((Unit×Ta38)×Ta59)):=q54_L4 x.1.2.1 x.1.2.2.1 x.1.2.2.2.1 x.1.2.2.2.2.1 x.2.1
abbrev h54_L2:Shape:={ slots:=[(1,.bx 1 0),(3,.v (.int .i64)),(4,.v Ty35),(5,.v (.int .i64))],boxes:=[(1,.typ Ty99)] }
abbrev e54_L2:List (XT×Shape):=[(.ret,{ slots:=[(2,.v .bool)],boxes:=[] }),(.exit 2,{ slots:=[(1,.bx 1 0),(3,.v (.int .i64))],boxes:=[(1,.typ Ty99)] })]
noncomputable def q54_L2 (t3:Int) (t4:(L (Int×(Bool×Unit)))) (t5:Int) (b1:Ta53):Option (Ta91⊕(((Bool×Unit)×Unit)⊕(Ta76⊕Empty))) :=
bif (decide (t5 < (t4.len:Int))) then bif (decide (0≤t5)&&decide (t5 < (t4.len:Int))) then bif (!(f60 (L.get t4 t5.toNat).1 (0:Int) (65535:Int))) then some (.inr (.inl ((false,()),()))) else ((fixO s54_L4 (((),(t3,(t4,(t5,((0:Int),()))))),(b1,()))).bind fun d2=>match d2 with | .inl y1=>some (.inr (.inl y1)) | .inr (.inl y1)=>some (.inl (((),(y1.1.2.1,(y1.1.2.2.1,((wI (y1.1.2.2.2.1 + (1:Int))),())))),y1.2)) | .inr (.inr e)=>nomatch e) else none else some (.inr (.inr (.inl (((),(t3,())),(b1,())))))
noncomputable def s54_L2 (x:Ta91):=q54_L2 x.1.2.1 x.1.2.2.1 x.1.2.2.2.1 x.2.1
abbrev h54_L0:Shape:={ slots:=[(1,.bx 1 0),(3,.v (.int .i64))],boxes:=[(1,.typ Ty99)] }
abbrev e54_L0:List (XT×Shape):=[(.ret,{ slots:=[(2,.v .bool)],boxes:=[] }),(.exit 0,{ slots:=[],boxes:=[] })]
noncomputable def q54_L0 (t3:Int) (b1:Ta53):Option (Ta76⊕(((Bool×Unit)×Unit)⊕((Unit×Unit)⊕Empty))) :=
bif (decide (t3 < (b1.2.1.len:Int))) then bif (decide (0≤t3)&&decide (t3 < (b1.2.1.len:Int))) then bif (decide (((L.get b1.2.1 t3.toNat).len:Int) > b1.1.2.1)) then some (.inr (.inl ((false,()),()))) else ((fixO s54_L2 (((),(t3,((L.get b1.2.1 t3.toNat),((0:Int),())))),(b1,()))).bind fun d4=>match d4 with | .inl y3=>some (.inr (.inl y3)) | .inr (.inl y3)=>some (.inl (((),((wI (y3.1.2.1 + (1:Int))),())),y3.2)) | .inr (.inr e)=>nomatch e) else none else some (.inr (.inr (.inl ((),()))))
noncomputable def s54_L0 (x:Ta76):=q54_L0 x.1.2.1 x.2.1
noncomputable def a54:Nat→Option LoopAnn:=fun c=>bif Nat.beq c 4 then some (.fix h54_L4 e54_L4 s54_L4) else bif Nat.beq c 2 then some (.fix h54_L2 e54_L2 s54_L2) else bif Nat.beq c 0 then some (.fix h54_L0 e54_L0 s54_L0) else none
noncomputable def g54 (x0:Ta53):Option ((Bool×Unit)×Unit) :=
bif (!(f105 x0.1)) then some ((false,()),()) else bif ((x0.2.1.len:Int) != x0.1.1) then some ((false,()),()) else (fixO s54_L0 (((),((0:Int),())),(x0,()))).bind fun d6=>match d6 with | .inl y5=>some ((y5.1.1,()),()) | .inr (.inl y5)=>some ((true,()),()) | .inr (.inr e)=>nomatch e
noncomputable def c54:Ctr:={ ins:=[.v Ty99],out:=[.bool],F:=fun x=>g54 x.1 }
noncomputable def l54:List (Nat×Code):=loopsIn (Try.f54.body.getD .skip) 0
theorem w54_L4:LW t54 a54 l54 2 4 h54_L4 e54_L4 s54_L4:=fun x=>by kernel_rfl
theorem w54_L2:LW t54 a54 l54 1 2 h54_L2 e54_L2 s54_L2:=fun x=>by kernel_rfl
theorem w54_L0:LW t54 a54 l54 0 0 h54_L0 e54_L0 s54_L0:=fun x=>by kernel_rfl
theorem o54:Holds Try.prog 54 c54:=fh t54 a54 Try.func54 [(0,lg l54 0),(2,lg l54 1),(4,lg l54 2)] ⟨fun x d h=>(w54_L0 x).trans h,fun x d h=>(w54_L2 x).trans h,fun x d h=>(w54_L4 x).trans h,trivial⟩ (tc o105 (tc o60 tn))
noncomputable def t57r:Tbl:=[(54,[],c54),(106,[],c106r)]
abbrev h57r_L2:Shape:={ slots:=[(1,.bx 1 0),(2,.bx 2 0),(4,.v (.int .i64)),(5,.v (.int .i64)),(6,.v (.int .i64))],boxes:=[(1,.typ Ty99),(2,.cells [.v (.int .i64),.v (.int .i64),.v (.int .i64),.ms 60131]),(60131,.row Ty35)] }
abbrev e57r_L2:List (XT×Shape):=[(.exit 2,{ slots:=[(1,.bx 1 0),(2,.bx 2 0),(4,.v (.int .i64)),(5,.v (.int .i64))],boxes:=[(1,.typ Ty99),(2,.cells [.v (.int .i64),.v (.int .i64),.v (.int .i64),.ms 60131]),(60131,.row Ty35)] })]
noncomputable def q57r_L2 (t4:Int) (t5:Int) (t6:Int) (b1:Ta53) (b2_0:Int) (b2_1:Int) (b2_2:Int) (r60131:Ta5):Option (((Unit×(Unit×(Int×(Int×(Int×Unit)))))×Ta95)⊕((Ta12×Ta95)⊕Empty)) :=
bif (decide (0≤t5)&&decide (t5 < (b1.2.1.len:Int))) then bif (decide (t6 < ((L.get b1.2.1 t5.toNat).len:Int))) then bif (decide (0≤t5)&&decide (t5 < (b1.2.1.len:Int))) then bif (decide (0≤t6)&&decide (t6 < ((L.get b1.2.1 t5.toNat).len:Int))) then bif (L.get (L.get b1.2.1 t5.toNat) t6.toNat).2.1 then some (.inl (((),((),((wI (t4 + (1:Int))),(t5,((wI (t6 + (1:Int))),()))))),(b1,((b2_0,(b2_1,(b2_2,((),())))),(r60131,()))))) else some (.inl (((),((),(t4,(t5,((wI (t6 + (1:Int))),()))))),(b1,((b2_0,(b2_1,(b2_2,((),())))),(r60131,()))))) else none else none else some (.inr (.inl (((),((),(t4,(t5,())))),(b1,((b2_0,(b2_1,(b2_2,((),())))),(r60131,())))))) else none
noncomputable def s57r_L2 (x:((Unit×(Unit×(Int×(Int×(Int×Unit)))))×Ta95)):=q57r_L2 x.1.2.2.1 x.1.2.2.2.1 x.1.2.2.2.2.1 x.2.1 x.2.2.1.1 x.2.2.1.2.1 x.2.2.1.2.2.1 x.2.2.2.1
abbrev h57r_L0:Shape:={ slots:=[(1,.bx 1 0),(2,.bx 2 0),(4,.v (.int .i64)),(5,.v (.int .i64))],boxes:=[(1,.typ Ty99),(2,.cells [.v (.int .i64),.v (.int .i64),.v (.int .i64),.row Ty35 60131])] }
abbrev e57r_L0:List (XT×Shape):=[(.exit 0,{ slots:=[(1,.bx 1 0),(2,.bx 2 0),(4,.v (.int .i64))],boxes:=[(1,.typ Ty99),(2,.cells [.v (.int .i64),.v (.int .i64),.v (.int .i64),.ms 60131]),(60131,.row Ty35)] })]
noncomputable def q57r_L0 (t4:Int) (t5:Int) (b1:Ta53) (b2_0:Int) (b2_1:Int) (b2_2:Int) (b2_3:Ta5):Option ((Ta12×(Ta53×Ta52))⊕((Ta0×Ta95)⊕Empty)) :=
bif (decide (t5 < (b1.2.1.len:Int))) then ((fixO s57r_L2 (((),((),(t4,(t5,((0:Int),()))))),(b1,((b2_0,(b2_1,(b2_2,((),())))),(b2_3,()))))).bind fun d3=>match d3 with | .inl y2=>some (.inl (((),((),(y2.1.2.2.1,((wI (y2.1.2.2.2.1 + (1:Int))),())))),(y2.2.1,((y2.2.2.1.1,(y2.2.2.1.2.1,(y2.2.2.1.2.2.1,y2.2.2.2))),())))) | .inr e=>nomatch e) else some (.inr (.inl (((),((),(t4,()))),(b1,((b2_0,(b2_1,(b2_2,((),())))),(b2_3,()))))))
noncomputable def s57r_L0 (x:(Ta12×(Ta53×Ta52))):=q57r_L0 x.1.2.2.1 x.1.2.2.2.1 x.2.1 x.2.2.1.1 x.2.2.1.2.1 x.2.2.1.2.2.1 x.2.2.1.2.2.2.1
noncomputable def a57r:Nat→Option LoopAnn:=fun c=>bif Nat.beq c 2 then some (.fix h57r_L2 e57r_L2 s57r_L2) else bif Nat.beq c 0 then some (.fix h57r_L0 e57r_L0 s57r_L0) else none
noncomputable def g57r (x0:Ta53):Option ((Ta53×(Int×Unit))×Unit) :=
(g54 x0).bind fun y1=>bif (!y1.1.1) then some (((((0:Int),((0:Int),((0:Int),()))),((nilL Ty35),())),(0:Int),()),()) else (fixO s57r_L0 (((),((),((0:Int),((0:Int),())))),(x0,(((0:Int),((0:Int),((0:Int),((nilL Ty35),())))),())))).bind fun d6=>match d6 with | .inl y4=>(g106r y4.2.1.1).bind fun y5=>some ((y5.1.1,y4.1.2.2.1,()),()) | .inr e=>nomatch e
noncomputable def c57r:Ctr:={ ins:=[.v Ty99],out:=[Ty99,(.int .i64)],F:=fun x=>g57r x.1,fr:=1 }
noncomputable def l57r:List (Nat×Code):=loopsIn (Try.f57.body.getD .skip) 0
theorem w57r_L2:LW t57r a57r l57r 1 2 h57r_L2 e57r_L2 s57r_L2:=fun x=>by kernel_rfl
theorem w57r_L0:LW t57r a57r l57r 0 0 h57r_L0 e57r_L0 s57r_L0:=fun x=>by kernel_rfl
theorem o57r:Holds Try.prog 57 c57r:=fh t57r a57r Try.func57 [(0,lg l57r 0),(2,lg l57r 1)] ⟨fun x d h=>(w57r_L0 x).trans h,fun x d h=>(w57r_L2 x).trans h,trivial⟩ (tc o54 (tc o106r tn))
noncomputable def t58:Tbl:=[(89,[],c89),(107,[],c107)]
noncomputable def g58 (x0:Ta132):Option ((Int×Unit)×Unit) :=
(g89 x0).bind fun y1=>bif (!y1.1.1) then some (((-1:Int),()),()) else (g107 x0.2.2.2.1 x0.2.1 x0.2.2.2.2.2.2.2.2.2.1).bind fun y2=>some (((wI (x0.2.2.2.2.1 - y2.1.1)),()),())
noncomputable def c58:Ctr:={ ins:=[.v Ty150],out:=[(.int .i64)],F:=fun x=>g58 x.1 }
theorem o58:Holds Try.prog 58 c58:=f0 t58 Try.func58 (tc o89 (tc o107 tn))
noncomputable def t59:Tbl:=[(89,[],c89),(99,[],c99)]
noncomputable def g59 (x0:Ta132):Option ((Int×Unit)×Unit) :=
(g89 x0).bind fun y1=>bif (!y1.1.1) then some (((-1:Int),()),()) else (g99 x0).bind fun y2=>some ((y2.1.1,()),())
noncomputable def c59:Ctr:={ ins:=[.v Ty150],out:=[(.int .i64)],F:=fun x=>g59 x.1 }
theorem o59:Holds Try.prog 59 c59:=f0 t59 Try.func59 (tc o89 (tc o99 tn))
noncomputable def t12:Tbl:=[(37,[],c37),(51,[],c51),(52,[],c52),(53,[],c53),(56,[],c56),(54,[],c54),(55,[],c55),(57,[],c57r),(58,[],c58),(59,[],c59)]
noncomputable def g12 (x0:(L Int)):Option ((Bool×Unit)×Unit) :=
bif (f37 x0) then some ((true,()),()) else (g51 x0).bind fun y1=>(g52 y1.1.1 y1.1.2.1 y1.1.2.2.1).bind fun y2=>(g53 y1.1.1).bind fun y3=>bif (!y3.1.1) then bif ((y2.1.1.1 == (0:Int))&&((y2.1.1.2.1 == (0:Int))&&((y2.1.1.2.2.1 == (0:Int))&&((y2.1.1.2.2.2.1 == (0:Int))&&true)))) then some ((((f56 y2.1.1) == (0:Int)),()),()) else some ((false,()),()) else (g54 y1.1.2.1).bind fun y4=>bif (!y4.1.1) then bif ((y2.1.1.1 == (0:Int))&&((y2.1.1.2.1 == (0:Int))&&((y2.1.1.2.2.1 == (0:Int))&&((y2.1.1.2.2.2.1 == (0:Int))&&true)))) then some ((((f56 y2.1.1) == (0:Int)),()),()) else some ((false,()),()) else bif (!((y1.1.2.1.1.1 == y1.1.1.2.1.1)&&((y1.1.2.1.1.2.1 == y1.1.1.2.1.2.1)&&((y1.1.2.1.1.2.2.1 == y1.1.1.2.1.2.2.1)&&true)))) then bif ((y2.1.1.1 == (0:Int))&&((y2.1.1.2.1 == (0:Int))&&((y2.1.1.2.2.1 == (0:Int))&&((y2.1.1.2.2.2.1 == (0:Int))&&true)))) then some ((((f56 y2.1.1) == (0:Int)),()),()) else some ((false,()),()) else bif (decide (y1.1.2.2.1 < (0:Int))) then bif ((y2.1.1.1 == (0:Int))&&((y2.1.1.2.1 == (0:Int))&&((y2.1.1.2.2.1 == (0:Int))&&((y2.1.1.2.2.2.1 == (0:Int))&&true)))) then some ((((f56 y2.1.1) == (0:Int)),()),()) else some ((false,()),()) else (g55 y1.1.1).bind fun y5=>bif (decide (y1.1.2.2.1 > y5.1.1)) then bif ((y2.1.1.1 == (0:Int))&&((y2.1.1.2.1 == (0:Int))&&((y2.1.1.2.2.1 == (0:Int))&&((y2.1.1.2.2.2.1 == (0:Int))&&true)))) then some ((((f56 y2.1.1) == (0:Int)),()),()) else some ((false,()),()) else (g57r y1.1.2.1).bind fun y6=>bif ((f56 y2.1.1) == y1.1.1.2.2.2.2.1) then bif (decide (y2.1.1.2.2.2.1 ≥ (0:Int))) then (g58 y1.1.1).bind fun y7=>bif (decide (y2.1.1.2.2.2.1 ≥ y7.1.1)) then bif (y2.1.1.1 == (wI (y6.1.2.1 * y1.1.1.2.2.2.1.2.2.2.2.2.2.1))) then bif (y2.1.1.2.2.1 == (wI (y1.1.2.2.1 * y1.1.1.2.2.2.1.1))) then (g59 y1.1.1).bind fun y8=>some (((decide (y8.1.1 ≥ y1.1.2.2.1)),()),()) else some ((false,()),()) else some ((false,()),()) else some ((false,()),()) else some ((false,()),()) else some ((false,()),())
noncomputable def c12:Ctr:={ ins:=[.v (.sl (.int .u8))],out:=[.bool],F:=fun x=>g12 x.1 }
theorem o12:Holds Try.prog 12 c12:=f0 t12 Try.func12 (tc o37 (tc o51 (tc o52 (tc o53 (tc o56 (tc o54 (tc o55 (tc o57r (tc o58 (tc o59 tn))))))))))
end Go.VE.VFnPadded
