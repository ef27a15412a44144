import Derived.Test.YtgllenfbilnneaaGreatVk9
import Derived.Test.YtgllenfbilnneaaGreatProg
/- What the functions do that laws.FnExactPartBoot reaches, as plain functions, and that they do it. -/
set_option linter.unusedVariables false
set_option linter.unusedSimpArgs false
namespace Go.VE.VFnExactPartBoot
open Go.Proofs Go.VE
abbrev Ta0 : Type := (Unit×(Unit×(Int×Unit)))
abbrev Ta1 : Type := (Int×((L (L Int))×Unit))
abbrev Ta2 : Type := (Unit×(Int×(Unit×Unit)))
abbrev Ta3 : Type := (L (Int×((L Int)×Unit)))
abbrev Ta4 : Type := ((L Int)×((L Int)×Unit))
abbrev Ta5 : Type := (Bool×(Bool×(Int×Unit)))
abbrev Ty6 : Ty := (.pair (.int .i64) .unit)
abbrev Ta7 : Type := (((L (L Int))×Unit)×Unit)
abbrev Ta8 : Type := (Bool×(Bool×(Bool×Unit)))
abbrev Ta9 : Type := (L (L (Int×(Bool×Unit))))
abbrev Ta10 : Type := (Unit×(Unit×(Unit×Unit)))
abbrev Ty11 : Ty := (.pair (.int .u32) .unit)
abbrev Ta12 : Type := ((L ((L Int)×Unit))×Unit)
abbrev Ta13 : Type := (L (Int×(Int×(Int×Unit))))
abbrev Ta14 : Type := ((L Int)×(Int×(Int×Unit)))
abbrev Ta15 : Type := ((L Int)×(Unit×(Int×Unit)))
abbrev Ta16 : Type := ((Int×Unit)×((L Int)×Unit))
abbrev Ta17 : Type := (Int×(Int×(Int×(Int×Unit))))
abbrev Ta18 : Type := ((L Int)×((L (L Int))×Unit))
abbrev Ta19 : Type := (L Ta4)
abbrev Ta20 : Type := ((L (Int×(Bool×Unit)))×Unit)
abbrev Ta21 : Type := ((Int×(Int×(Int×Unit)))×Unit)
abbrev Ta22 : Type := (Int×(Int×(Int×(Bool×Unit))))
abbrev Ta23 : Type := ((Int×Unit)×(Int×(Int×Unit)))
abbrev Ta24 : Type := ((L (L Int))×(Int×(Int×Unit)))
abbrev Ta25 : Type := (Int×Ta5)
abbrev Ta26 : Type := ((L Int)×((L Int)×(Int×Unit)))
abbrev Ty27 : Ty := (.pair (.sl (.int .u32)) .unit)
abbrev Ta28 : Type := ((L (L Int))×(Unit×(Int×Unit)))
abbrev Ta29 : Type := (Unit×Ta0)
abbrev Ty30 : Ty := (.pair (.sl (.int .i64)) .unit)
abbrev Ta31 : Type := (Ta3×Unit)
abbrev Ta32 : Type := (L Ta17)
abbrev Ta33 : Type := ((Unit×Unit)×((L (L Int))×Unit))
abbrev Ta34 : Type := (Ta9×Unit)
abbrev Ta35 : Type := (Unit×Ta10)
abbrev Ta36 : Type := (Ta13×Unit)
abbrev Ta37 : Type := (Ta14×Unit)
abbrev Ta38 : Type := (Int×Ta17)
abbrev Ta39 : Type := ((L Int)×Ta1)
abbrev Ta40 : Type := (Ta19×Unit)
abbrev Ta41 : Type := (Ta21×Unit)
abbrev Ty42 : Ty := (.pair (.sl (.sl (.int .u8))) .unit)
abbrev Ta43 : Type := (Int×Ta25)
abbrev Ta44 : Type := (Ta24×Unit)
abbrev Ty45 : Ty := (.sl Ty27)
abbrev Ta46 : Type := (Ta26×Unit)
abbrev Ta47 : Type := (Int×Ta34)
abbrev Ty48 : Ty := (.pair (.int .i64) (.pair .bool .unit))
abbrev Ta49 : Type := (Ta32×Unit)
abbrev Ta50 : Type := (Bool×Ta35)
abbrev Ty51 : Ty := (.pair .bool Ty11)
abbrev Ta52 : Type := (Ta13×(Int×Unit))
abbrev Ta53 : Type := (Int×Ta38)
abbrev Ta54 : Type := (Ta36×Unit)
abbrev Ta55 : Type := ((Unit×(Int×(Int×Unit)))×((L Int)×Unit))
abbrev Ta56 : Type := (Ta39×Unit)
abbrev Ta57 : Type := (Int×Ta43)
abbrev Ta58 : Type := (Ta15×((L Int)×Unit))
abbrev Ta59 : Type := (Int×Ta47)
abbrev Ty60 : Ty := (.sl Ty48)
abbrev Ty61 : Ty := (.pair (.int .i64) Ty6)
abbrev Ta62 : Type := (Int×Ta50)
abbrev Ta63 : Type := (Ta13×(Int×(Int×Unit)))
abbrev Ta64 : Type := (Int×Ta53)
abbrev Ta65 : Type := (Ta13×(Unit×(Int×Unit)))
abbrev Ta66 : Type := ((Int×Unit)×Ta36)
abbrev Ta67 : Type := ((Unit×Unit)×Ta36)
abbrev Ta68 : Type := (Ta56×Unit)
abbrev Ta69 : Type := (Int×Ta57)
abbrev Ta70 : Type := (Int×Ta59)
abbrev Ty71 : Ty := (.pair (.int .i64) Ty27)
abbrev Ty72 : Ty := (.sl Ty60)
abbrev Ty73 : Ty := (.pair (.int .i64) Ty30)
abbrev Ta74 : Type := (Int×Ta63)
abbrev Ta75 : Type := ((Int×(Int×Unit))×Ta36)
abbrev Ta76 : Type := (Ta28×((L (L Int))×Unit))
abbrev Ta77 : Type := (Unit×Ta62)
abbrev Ta78 : Type := (Ta64×Unit)
abbrev Ta79 : Type := ((Unit×(Int×Unit))×Ta36)
abbrev Ty80 : Ty := (.pair .bool Ty51)
abbrev Ta81 : Type := (Bool×Ta69)
abbrev Ty82 : Ty := (.pair (.int .u32) Ty42)
abbrev Ta83 : Type := ((L ((L Int)×Unit))×Ta40)
abbrev Ty84 : Ty := (.pair (.sl (.int .u32)) Ty27)
abbrev Ta85 : Type := ((Int×(Int×(Int×Unit)))×Ta34)
abbrev Ty86 : Ty := (.sl Ty71)
abbrev Ta87 : Type := (Int×Ta75)
abbrev Ta88 : Type := (Int×Ta77)
abbrev Ta89 : Type := ((Unit×(Int×(Int×Unit)))×Ta36)
abbrev Ty90 : Ty := (.pair (.int .i64) Ty48)
abbrev Ty91 : Ty := (.sl Ty84)
abbrev Ta92 : Type := (Ta85×Unit)
abbrev Ty93 : Ty := (.pair (.int .i64) Ty61)
abbrev Ty94 : Ty := (.pair Ty72 .unit)
abbrev Ta95 : Type := (Unit×Ta88)
abbrev Ta96 : Type := (Ta32×Ta36)
abbrev Ta97 : Type := (Ta13×Ta52)
abbrev Ta98 : Type := (ByteArray×Ta87)
abbrev Ty99 : Ty := (.sl Ty93)
abbrev Ta100 : Type := (Int×Ta95)
abbrev Ty101 : Ty := (.pair (.int .u32) Ty80)
abbrev Ta102 : Type := (L Ta98)
abbrev Ta103 : Type := (Ta97×Unit)
abbrev Ta104 : Type := (Ta98×Unit)
abbrev Ta105 : Type := (Int×Ta100)
abbrev Ty106 : Ty := (.pair Ty91 .unit)
abbrev Ta107 : Type := ((L Int)×Ta96)
abbrev Ta108 : Type := ((Unit×(Int×(Int×Unit)))×Ta78)
abbrev Ty109 : Ty := (.pair (.int .i64) Ty90)
abbrev Ta110 : Type := (Ta102×Unit)
abbrev Ta111 : Type := (Ta65×Ta36)
abbrev Ty112 : Ty := (.pair (.sl (.int .u32)) Ty82)
abbrev Ta113 : Type := (Ta3×Ta83)
abbrev Ta114 : Type := (Int×Ta105)
abbrev Ty115 : Ty := (.pair Ty99 .unit)
abbrev Ty116 : Ty := (.pair (.int .i64) Ty93)
abbrev Ta117 : Type := (Bool×Ta114)
abbrev Ty118 : Ty := (.sl Ty116)
abbrev Ta119 : Type := (Ta102×(Int×(Int×Unit)))
abbrev Ty120 : Ty := (.pair (.int .u32) Ty101)
abbrev Ta121 : Type := (Ta102×(Unit×(Int×Unit)))
abbrev Ta122 : Type := (Int×Ta117)
abbrev Ta123 : Type := ((L (L Int))×Ta113)
abbrev Ta124 : Type := (Int×Ta122)
abbrev Ta125 : Type := (Bool×Ta123)
abbrev Ty126 : Ty := (.pair (.int .i64) Ty116)
abbrev Ta127 : Type := (Ta13×Ta104)
abbrev Ta128 : Type := ((L Int)×Ta123)
abbrev Ta129 : Type := (Int×Ta124)
abbrev Ta130 : Type := (Int×Ta125)
abbrev Ty131 : Ty := (.pair (.int .u32) Ty120)
abbrev Ta132 : Type := (Int×Ta129)
abbrev Ta133 : Type := (Bool×Ta132)
abbrev Ty134 : Ty := (.pair Ty45 Ty106)
abbrev Ty135 : Ty := (.pair (.int .i64) Ty126)
abbrev Ta136 : Type := (Bool×Ta133)
abbrev Ta137 : Type := ((Int×((L Int)×Unit))×Ta130)
abbrev Ty138 : Ty := (.pair (.int .u32) Ty131)
abbrev Ta139 : Type := (Int×Ta136)
abbrev Ta140 : Type := (Ta9×Ta128)
abbrev Ty141 : Ty := (.pair Ty61 Ty115)
abbrev Ty142 : Ty := (.pair Ty93 Ty94)
abbrev Ta143 : Type := (Int×Ta139)
abbrev Ty144 : Ty := (.pair (.int .i64) Ty135)
abbrev Ta145 : Type := (Int×Ta143)
abbrev Ty146 : Ty := (.pair .bool Ty138)
abbrev Ta147 : Type := ((L (L Int))×Ta140)
abbrev Ta148 : Type := (Int×Ta145)
abbrev Ta149 : Type := (Ta102×Ta107)
abbrev Ty150 : Ty := (.pair (.int .i64) Ty141)
abbrev Ta151 : Type := (Bool×Ta148)
abbrev Ta152 : Type := ((L Int)×Ta147)
abbrev Ta153 : Type := (Int×Ta149)
abbrev Ta154 : Type := (Unit×Ta151)
abbrev Ta155 : Type := (Int×Ta153)
abbrev Ty156 : Ty := (.pair .str Ty150)
abbrev Ta157 : Type := (Int×Ta154)
abbrev Ta158 : Type := (Int×Ta155)
abbrev Ty159 : Ty := (.sl Ty156)
abbrev Ta160 : Type := (Unit×Ta157)
abbrev Ty161 : Ty := (.pair Ty118 Ty115)
abbrev Ty162 : Ty := (.pair Ty86 Ty134)
abbrev Ta163 : Type := (Ta19×Ta152)
abbrev Ta164 : Type := (Ta85×Ta137)
abbrev Ty165 : Ty := (.pair (.sl (.int .i64)) Ty161)
abbrev Ta166 : Type := ((L ((L Int)×Unit))×Ta163)
abbrev Ty167 : Ty := (.pair (.sl (.sl (.int .u8))) Ty162)
abbrev Ta168 : Type := (Ta64×Ta158)
abbrev Ta169 : Type := (Ta22×Ta164)
abbrev Ta170 : Type := (Int×Ta168)
abbrev Ty171 : Ty := (.pair .bool Ty167)
abbrev Ta172 : Type := (Ta3×Ta166)
abbrev Ta173 : Type := ((L (L Int))×Ta172)
abbrev Ta174 : Type := ((Int×(Int×(Int×Unit)))×Ta170)
abbrev Ty175 : Ty := (.pair (.int .i64) Ty171)
abbrev Ta176 : Type := (Int×Ta174)
abbrev Ta177 : Type := ((L Int)×Ta173)
abbrev Ta178 : Type := (Ta176×Unit)
abbrev Ta179 : Type := ((Unit×Unit)×Ta178)
abbrev Ta180 : Type := (Ta81×Ta169)
abbrev Ta181 : Type := ((Unit×(Int×Unit))×Ta178)
abbrev Ta182 : Type := (Ta9×Ta177)
abbrev Ta183 : Type := ((Unit×(Int×(Int×Unit)))×Ta178)
abbrev Ta184 : Type := ((L (L Int))×Ta182)
abbrev Ta185 : Type := ((L Int)×Ta184)
abbrev Ty186 : Ty := (.pair Ty73 Ty175)
abbrev Ta187 : Type := (Ta39×Ta180)
abbrev Ta188 : Type := (Ta187×Unit)
abbrev Ta189 : Type := (Ta176×Ta127)
abbrev Ty190 : Ty := (.pair Ty159 Ty165)
abbrev Ty191 : Ty := (.pair (.int .i64) Ty190)
abbrev Ty192 : Ty := (.pair (.int .i64) Ty191)
abbrev Ty193 : Ty := (.pair (.int .i64) Ty192)
abbrev Ty194 : Ty := (.pair Ty142 Ty186)
abbrev Ta195 : Type := (Ta160×Ta185)
abbrev Ty196 : Ty := (.pair Ty109 Ty194)
abbrev Ty197 : Ty := (.pair Ty144 Ty193)
abbrev Ty198 : Ty := (.pair (.int .i64) Ty197)
abbrev Ta199 : Type := (Ta160×Ta195)
abbrev Ty200 : Ty := (.pair Ty93 Ty198)
abbrev Ty201 : Ty := (.pair Ty146 Ty196)
abbrev Ty202 : Ty := (.pair (.int .i64) Ty200)
abbrev Ty203 : Ty := (.pair Ty112 Ty201)
abbrev Ta204 : Type := (Ta176×Ta199)
def om {α β : Type} (f : α → β) (o : Option α) : Option β := match o with
  | some y => some (f y)
  | none => none
def ob {α β : Type} (o : Option α) (f : α → Option β) : Option β := match o with
  | some y => f y
  | none => none
def Γ : TypeId → Option Ty := fun e => bif Nat.beq e 3 then some (.int .i64) else bif Nat.beq e 5 then some (.int .u8) else bif Nat.beq e 36 then some (.int .u32) else bif Nat.beq e 90 then some (.sl (.int .u8)) else bif Nat.beq e 96 then some Ty84 else bif Nat.beq e 173 then some Ty60 else bif Nat.beq e 175 then some Ty71 else bif Nat.beq e 177 then some Ty27 else bif Nat.beq e 179 then some Ty48 else bif Nat.beq e 186 then some Ty156 else bif Nat.beq e 191 then some Ty156 else bif Nat.beq e 194 then some Ty116 else bif Nat.beq e 196 then some Ty116 else bif Nat.beq e 198 then some Ty93 else bif Nat.beq e 200 then some Ty93 else bif Nat.beq e 208 then some Ty93 else bif Nat.beq e 333 then some Ty93 else none
theorem gamOk : GamOk Tryz.prog Γ := gamOk_of [3, 5, 36, 90, 96, 173, 175, 177, 179, 186, 191, 194, 196, 198, 200, 208, 333] (fun e ty h => by
  simp only [Γ] at h
  cases h3 : Nat.beq e 3 with
  | true => simp [Nat.eq_of_beq_eq_true h3]
  | false =>
  simp only [h3, cond_false] at h
  cases h5 : Nat.beq e 5 with
  | true => simp [Nat.eq_of_beq_eq_true h5]
  | false =>
  simp only [h5, cond_false] at h
  cases h36 : Nat.beq e 36 with
  | true => simp [Nat.eq_of_beq_eq_true h36]
  | false =>
  simp only [h36, cond_false] at h
  cases h90 : Nat.beq e 90 with
  | true => simp [Nat.eq_of_beq_eq_true h90]
  | false =>
  simp only [h90, cond_false] at h
  cases h96 : Nat.beq e 96 with
  | true => simp [Nat.eq_of_beq_eq_true h96]
  | false =>
  simp only [h96, cond_false] at h
  cases h173 : Nat.beq e 173 with
  | true => simp [Nat.eq_of_beq_eq_true h173]
  | false =>
  simp only [h173, cond_false] at h
  cases h175 : Nat.beq e 175 with
  | true => simp [Nat.eq_of_beq_eq_true h175]
  | false =>
  simp only [h175, cond_false] at h
  cases h177 : Nat.beq e 177 with
  | true => simp [Nat.eq_of_beq_eq_true h177]
  | false =>
  simp only [h177, cond_false] at h
  cases h179 : Nat.beq e 179 with
  | true => simp [Nat.eq_of_beq_eq_true h179]
  | false =>
  simp only [h179, cond_false] at h
  cases h186 : Nat.beq e 186 with
  | true => simp [Nat.eq_of_beq_eq_true h186]
  | false =>
  simp only [h186, cond_false] at h
  cases h191 : Nat.beq e 191 with
  | true => simp [Nat.eq_of_beq_eq_true h191]
  | false =>
  simp only [h191, cond_false] at h
  cases h194 : Nat.beq e 194 with
  | true => simp [Nat.eq_of_beq_eq_true h194]
  | false =>
  simp only [h194, cond_false] at h
  cases h196 : Nat.beq e 196 with
  | true => simp [Nat.eq_of_beq_eq_true h196]
  | false =>
  simp only [h196, cond_false] at h
  cases h198 : Nat.beq e 198 with
  | true => simp [Nat.eq_of_beq_eq_true h198]
  | false =>
  simp only [h198, cond_false] at h
  cases h200 : Nat.beq e 200 with
  | true => simp [Nat.eq_of_beq_eq_true h200]
  | false =>
  simp only [h200, cond_false] at h
  cases h208 : Nat.beq e 208 with
  | true => simp [Nat.eq_of_beq_eq_true h208]
  | false =>
  simp only [h208, cond_false] at h
  cases h333 : Nat.beq e 333 with
  | true => simp [Nat.eq_of_beq_eq_true h333]
  | false =>
  simp only [h333, cond_false] at h
  cases h) (by kernel_rfl)
theorem mo : Tryz.prog.follows .mixedOrders = true := by kernel_rfl
theorem tn : TblOk Tryz.prog [] := tblOk_nil
theorem tc {f : Nat} {gs : List Nat} {c : Ctr} {r : Tbl} (h : Holds Tryz.prog f c) (hr : TblOk Tryz.prog r) : TblOk Tryz.prog ((f, gs, c) :: r) := tblOk_cons h hr
noncomputable def a0 : Nat → Option LoopAnn := fun _ => none
noncomputable def lg (l : List (Nat × Code)) (j : Nat) : Code := (l.getD j (0, .skip)).2
abbrev LW (T : Tbl) (A : Nat → Option LoopAnn) (l : List (Nat × Code)) (j ctx : Nat) (h : Shape) (es : List (XT × Shape)) (s : h.T → Option (h.T ⊕ ExT es)) : Prop := ∀ x : h.T, runK Tryz.prog Γ T A (lg l j) ctx (pkSh h x) (loopCls (sh := h) (es := es)) = (s x : Option _)
section
variable {k : Nat} {fn : Func} {c : Ctr}
theorem fhT (T : Tbl) (A : Nat → Option LoopAnn) (G : InsT c.ins → Option (TysT c.out × PtT c.ins)) (hf : Tryz.prog.funcs[k]? = some fn) (l : List (Nat × Code)) (hl : LoopsOk Tryz.prog Γ T A l) (hT : TblOk Tryz.prog T) (hn : ∀ x, G x = c.F x) (hr : ∀ x, fnK Tryz.prog Γ T A fn c x = G x := by intro x; kernel_rfl) (he : loopsIn (fn.body.getD .skip) 0 = l := by kernel_rfl) (h1 : (fn.name == "runtime.NumGoroutine") = false := by kernel_rfl) (h2 : fn.body = some (fn.body.getD .skip) := by kernel_rfl)
    (h3 : Nat.ble c.ins.length fn.ntmps = true := by kernel_rfl) (h4 : dstsOk fn.ntmps (fn.body.getD .skip) = true := by kernel_rfl) : Holds Tryz.prog k c :=
  fn_holds (code := fn.body.getD .skip) mo gamOk hT hf h1 h2 h3 h4 (by rw [he]; exact hl) (fun x _ h => (hr x).trans ((hn x).trans h))
theorem fh (T : Tbl) (A : Nat → Option LoopAnn) (hf : Tryz.prog.funcs[k]? = some fn) (l : List (Nat × Code)) (hl : LoopsOk Tryz.prog Γ T A l) (hT : TblOk Tryz.prog T) (hr : ∀ x, fnK Tryz.prog Γ T A fn c x = c.F x := by intro x; kernel_rfl) (he : loopsIn (fn.body.getD .skip) 0 = l := by kernel_rfl) (h1 : (fn.name == "runtime.NumGoroutine") = false := by kernel_rfl) (h2 : fn.body = some (fn.body.getD .skip) := by kernel_rfl)
    (h3 : Nat.ble c.ins.length fn.ntmps = true := by kernel_rfl) (h4 : dstsOk fn.ntmps (fn.body.getD .skip) = true := by kernel_rfl) : Holds Tryz.prog k c := fhT T A c.F hf l hl hT (fun _ => rfl) hr he h1 h2 h3 h4
theorem f0T (T : Tbl) (G : InsT c.ins → Option (TysT c.out × PtT c.ins)) (hf : Tryz.prog.funcs[k]? = some fn) (hT : TblOk Tryz.prog T) (hn : ∀ x, G x = c.F x) (hr : ∀ x, fnK Tryz.prog Γ T a0 fn c x = G x := by intro x; kernel_rfl) (he : loopsIn (fn.body.getD .skip) 0 = [] := by kernel_rfl) (h1 : (fn.name == "runtime.NumGoroutine") = false := by kernel_rfl) (h2 : fn.body = some (fn.body.getD .skip) := by kernel_rfl)
    (h3 : Nat.ble c.ins.length fn.ntmps = true := by kernel_rfl) (h4 : dstsOk fn.ntmps (fn.body.getD .skip) = true := by kernel_rfl) : Holds Tryz.prog k c := fhT T a0 G hf [] trivial hT hn hr he h1 h2 h3 h4
theorem f0 (T : Tbl) (hf : Tryz.prog.funcs[k]? = some fn) (hT : TblOk Tryz.prog T) (hr : ∀ x, fnK Tryz.prog Γ T a0 fn c x = c.F x := by intro x; kernel_rfl) (he : loopsIn (fn.body.getD .skip) 0 = [] := by kernel_rfl) (h1 : (fn.name == "runtime.NumGoroutine") = false := by kernel_rfl) (h2 : fn.body = some (fn.body.getD .skip) := by kernel_rfl)
    (h3 : Nat.ble c.ins.length fn.ntmps = true := by kernel_rfl) (h4 : dstsOk fn.ntmps (fn.body.getD .skip) = true := by kernel_rfl) : Holds Tryz.prog k c := fhT T a0 c.F hf [] trivial hT (fun _ => rfl) hr he h1 h2 h3 h4
end
noncomputable def t219:Tbl:=[]
noncomputable def g219 (x0:Ta13) (x1:Int):Option ((Int×Unit)×Unit) :=
bif (decide ((wI (x1 - (x0.len:Int))) < (0:Int))) then some (((-1:Int),()),()) else some (((wI (x1 - (x0.len:Int))),()),())
noncomputable def f219 (x0:Ta13) (x1:Int):Int :=
bif (decide ((wI (x1 - (x0.len:Int))) < (0:Int))) then (-1:Int) else (wI (x1 - (x0.len:Int)))
theorem n219 (x0:Ta13) (x1:Int):g219 x0 x1 = some ((f219 x0 x1,()),()):=by simp only [g219,f219,pull1]
noncomputable def c219:Ctr:={ ins:=[.v Ty99,.v (.int .i64)],out:=[(.int .i64)],F:=fun x=>some ((f219 x.1 x.2.1,()),()) }
theorem o219:Holds Tryz.prog 219 c219:=f0T t219 (fun x=>g219 x.1 x.2.1) Tryz.func219 tn (fun x=>n219 x.1 x.2.1)
noncomputable def t126:Tbl:=[(219,[],c219)]
noncomputable def g126 (x0:Ta98) (x1:Int):Option ((Int×Unit)×Unit) :=
bif (decide ((wI (x1 - (x0.1.size:Int))) < (0:Int))) then some (((-1:Int),()),()) else bif (decide ((f219 x0.2.2.2.1 (wI (x1 - (x0.1.size:Int)))) < (0:Int))) then some (((-1:Int),()),()) else some (((f219 x0.2.2.2.1 (wI (x1 - (x0.1.size:Int)))),()),())
noncomputable def f126 (x0:Ta98) (x1:Int):Int :=
bif (decide ((wI (x1 - (x0.1.size:Int))) < (0:Int))) then (-1:Int) else bif (decide ((f219 x0.2.2.2.1 (wI (x1 - (x0.1.size:Int)))) < (0:Int))) then (-1:Int) else (f219 x0.2.2.2.1 (wI (x1 - (x0.1.size:Int))))
theorem n126 (x0:Ta98) (x1:Int):g126 x0 x1 = some ((f126 x0 x1,()),()):=by simp only [g126,f126,pull1]
noncomputable def c126:Ctr:={ ins:=[.v Ty156,.v (.int .i64)],out:=[(.int .i64)],F:=fun x=>some ((f126 x.1 x.2.1,()),()) }
theorem o126:Holds Tryz.prog 126 c126:=f0T t126 (fun x=>g126 x.1 x.2.1) Tryz.func126 (tc o219 tn) (fun x=>n126 x.1 x.2.1)
noncomputable def t40:Tbl:=[(126,[],c126)]
abbrev h40_L0:Shape:={ slots:=[(0,.v Ty159),(1,.v (.int .i64)),(5,.v (.int .i64))],boxes:=[] }
abbrev e40_L0:List (XT×Shape):=[(.ret,{ slots:=[(4,.v (.int .i64))],boxes:=[] }),(.exit 0,{ slots:=[(1,.v (.int .i64))],boxes:=[] })]
noncomputable def q40_L0 (t0:Ta102) (t1:Int) (t5:Int):Option ((Ta119×Unit)⊕(((Int×Unit)×Unit)⊕(((Int×Unit)×Unit)⊕Empty))) :=
bif (decide (t5 < (t0.len:Int))) then bif (decide (0≤t5)&&decide (t5 < (t0.len:Int))) then bif (decide ((f126 (L.get t0 t5.toNat) t1) < (0:Int))) then some (.inr (.inl (((-1:Int),()),()))) else some (.inl ((t0,((f126 (L.get t0 t5.toNat) t1),((wI (t5 + (1:Int))),()))),())) else none else some (.inr (.inr (.inl ((t1,()),()))))
noncomputable def s40_L0 (x:(Ta119×Unit)):=q40_L0 x.1.1 x.1.2.1 x.1.2.2.1
noncomputable def a40:Nat→Option LoopAnn:=fun c=>bif Nat.beq c 0 then some (.fix h40_L0 e40_L0 s40_L0) else none
noncomputable def g40 (x0:Ta102) (x1:Int):Option ((Int×Unit)×Unit) :=
bif (decide ((wI (x1 - (x0.len:Int))) < (0:Int))) then some (((-1:Int),()),()) else (fixO s40_L0 ((x0,((wI (x1 - (x0.len:Int))),((0:Int),()))),())).bind fun d2=>match d2 with | .inl y1=>some ((y1.1.1,()),()) | .inr (.inl y1)=>some ((y1.1.1,()),()) | .inr (.inr e)=>nomatch e
noncomputable def c40:Ctr:={ ins:=[.v Ty159,.v (.int .i64)],out:=[(.int .i64)],F:=fun x=>g40 x.1 x.2.1 }
noncomputable def l40:List (Nat×Code):=loopsIn (Tryz.f40.body.getD .skip) 0
theorem w40_L0:LW t40 a40 l40 0 0 h40_L0 e40_L0 s40_L0:=fun x=>by kernel_rfl
theorem o40:Holds Tryz.prog 40 c40:=fh t40 a40 Tryz.func40 [(0,lg l40 0)] ⟨fun x d h=>(w40_L0 x).trans h,trivial⟩ (tc o126 tn)
noncomputable def t41:Tbl:=[]
noncomputable def g41 (x0:(L Int)) (x1:Int):Option ((Int×Unit)×Unit) :=
bif (decide ((wI (x1 - (x0.len:Int))) < (0:Int))) then some (((-1:Int),()),()) else some (((wI (x1 - (x0.len:Int))),()),())
noncomputable def f41 (x0:(L Int)) (x1:Int):Int :=
bif (decide ((wI (x1 - (x0.len:Int))) < (0:Int))) then (-1:Int) else (wI (x1 - (x0.len:Int)))
theorem n41 (x0:(L Int)) (x1:Int):g41 x0 x1 = some ((f41 x0 x1,()),()):=by simp only [g41,f41,pull1]
noncomputable def c41:Ctr:={ ins:=[.v (.sl (.int .i64)),.v (.int .i64)],out:=[(.int .i64)],F:=fun x=>some ((f41 x.1 x.2.1,()),()) }
theorem o41:Holds Tryz.prog 41 c41:=f0T t41 (fun x=>g41 x.1 x.2.1) Tryz.func41 tn (fun x=>n41 x.1 x.2.1)
noncomputable def t42:Tbl:=[]
noncomputable def g42 (x0:Ta32) (x1:Int):Option ((Int×Unit)×Unit) :=
bif (decide ((wI (x1 - (x0.len:Int))) < (0:Int))) then some (((-1:Int),()),()) else some (((wI (x1 - (x0.len:Int))),()),())
noncomputable def f42 (x0:Ta32) (x1:Int):Int :=
bif (decide ((wI (x1 - (x0.len:Int))) < (0:Int))) then (-1:Int) else (wI (x1 - (x0.len:Int)))
theorem n42 (x0:Ta32) (x1:Int):g42 x0 x1 = some ((f42 x0 x1,()),()):=by simp only [g42,f42,pull1]
noncomputable def c42:Ctr:={ ins:=[.v Ty118,.v (.int .i64)],out:=[(.int .i64)],F:=fun x=>some ((f42 x.1 x.2.1,()),()) }
theorem o42:Holds Tryz.prog 42 c42:=f0T t42 (fun x=>g42 x.1 x.2.1) Tryz.func42 tn (fun x=>n42 x.1 x.2.1)
noncomputable def t43:Tbl:=[]
noncomputable def g43 (x0:Ta13) (x1:Int):Option ((Int×Unit)×Unit) :=
bif (decide ((wI (x1 - (x0.len:Int))) < (0:Int))) then some (((-1:Int),()),()) else some (((wI (x1 - (x0.len:Int))),()),())
noncomputable def f43 (x0:Ta13) (x1:Int):Int :=
bif (decide ((wI (x1 - (x0.len:Int))) < (0:Int))) then (-1:Int) else (wI (x1 - (x0.len:Int)))
theorem n43 (x0:Ta13) (x1:Int):g43 x0 x1 = some ((f43 x0 x1,()),()):=by simp only [g43,f43,pull1]
noncomputable def c43:Ctr:={ ins:=[.v Ty99,.v (.int .i64)],out:=[(.int .i64)],F:=fun x=>some ((f43 x.1 x.2.1,()),()) }
theorem o43:Holds Tryz.prog 43 c43:=f0T t43 (fun x=>g43 x.1 x.2.1) Tryz.func43 tn (fun x=>n43 x.1 x.2.1)
noncomputable def t9:Tbl:=[(40,[],c40),(41,[],c41),(42,[],c42),(43,[],c43)]
noncomputable def g9 (x0:Ta176) (x1:Int):Option ((Int×Unit)×Unit) :=
(g40 x0.2.2.2.2.2.2.2.1 x1).bind fun y1=>bif (decide (y1.1.1 < (0:Int))) then some (((-1:Int),()),()) else bif (decide ((f41 x0.2.2.2.2.2.2.2.2.1 y1.1.1) < (0:Int))) then some (((-1:Int),()),()) else bif (decide ((f42 x0.2.2.2.2.2.2.2.2.2.1 (f41 x0.2.2.2.2.2.2.2.2.1 y1.1.1)) < (0:Int))) then some (((-1:Int),()),()) else bif (decide ((f43 x0.2.2.2.2.2.2.2.2.2.2.1 (f42 x0.2.2.2.2.2.2.2.2.2.1 (f41 x0.2.2.2.2.2.2.2.2.1 y1.1.1))) < (0:Int))) then some (((-1:Int),()),()) else some (((f43 x0.2.2.2.2.2.2.2.2.2.2.1 (f42 x0.2.2.2.2.2.2.2.2.2.1 (f41 x0.2.2.2.2.2.2.2.2.1 y1.1.1))),()),())
noncomputable def c9:Ctr:={ ins:=[.v Ty202,.v (.int .i64)],out:=[(.int .i64)],F:=fun x=>g9 x.1 x.2.1 }
theorem o9:Holds Tryz.prog 9 c9:=f0 t9 Tryz.func9 (tc o40 (tc o41 (tc o42 (tc o43 tn))))
noncomputable def t44:Tbl:=[]
noncomputable def g44 (x0:(L Int)) (x1:Int):Option ((Int×Unit)×Unit) :=
bif (decide ((wI (x1 - (x0.len:Int))) < (0:Int))) then some (((-1:Int),()),()) else some (((wI (x1 - (x0.len:Int))),()),())
noncomputable def f44 (x0:(L Int)) (x1:Int):Int :=
bif (decide ((wI (x1 - (x0.len:Int))) < (0:Int))) then (-1:Int) else (wI (x1 - (x0.len:Int)))
theorem n44 (x0:(L Int)) (x1:Int):g44 x0 x1 = some ((f44 x0 x1,()),()):=by simp only [g44,f44,pull1]
noncomputable def c44:Ctr:={ ins:=[.v (.sl (.int .u8)),.v (.int .i64)],out:=[(.int .i64)],F:=fun x=>some ((f44 x.1 x.2.1,()),()) }
theorem o44:Holds Tryz.prog 44 c44:=f0T t44 (fun x=>g44 x.1 x.2.1) Tryz.func44 tn (fun x=>n44 x.1 x.2.1)
noncomputable def t10:Tbl:=[(44,[],c44)]
abbrev h10_L0:Shape:={ slots:=[(0,.v (.sl (.sl (.int .u8)))),(1,.v (.int .i64)),(5,.v (.int .i64))],boxes:=[] }
abbrev e10_L0:List (XT×Shape):=[(.ret,{ slots:=[(4,.v (.int .i64))],boxes:=[] }),(.exit 0,{ slots:=[(1,.v (.int .i64))],boxes:=[] })]
noncomputable def q10_L0 (t0:(L (L Int))) (t1:Int) (t5:Int):Option (Ta44⊕(((Int×Unit)×Unit)⊕(((Int×Unit)×Unit)⊕Empty))) :=
bif (decide (t5 < (t0.len:Int))) then bif (decide (0≤t5)&&decide (t5 < (t0.len:Int))) then bif (decide ((f44 (L.get t0 t5.toNat) t1) < (0:Int))) then some (.inr (.inl (((-1:Int),()),()))) else some (.inl ((t0,((f44 (L.get t0 t5.toNat) t1),((wI (t5 + (1:Int))),()))),())) else none else some (.inr (.inr (.inl ((t1,()),()))))
noncomputable def s10_L0 (x:Ta44):=q10_L0 x.1.1 x.1.2.1 x.1.2.2.1
noncomputable def a10:Nat→Option LoopAnn:=fun c=>bif Nat.beq c 0 then some (.fix h10_L0 e10_L0 s10_L0) else none
noncomputable def g10 (x0:(L (L Int))) (x1:Int):Option ((Int×Unit)×Unit) :=
bif (decide ((wI (x1 - (x0.len:Int))) < (0:Int))) then some (((-1:Int),()),()) else (fixO s10_L0 ((x0,((wI (x1 - (x0.len:Int))),((0:Int),()))),())).bind fun d2=>match d2 with | .inl y1=>some ((y1.1.1,()),()) | .inr (.inl y1)=>some ((y1.1.1,()),()) | .inr (.inr e)=>nomatch e
noncomputable def c10:Ctr:={ ins:=[.v (.sl (.sl (.int .u8))),.v (.int .i64)],out:=[(.int .i64)],F:=fun x=>g10 x.1 x.2.1 }
noncomputable def l10:List (Nat×Code):=loopsIn (Tryz.f10.body.getD .skip) 0
theorem w10_L0:LW t10 a10 l10 0 0 h10_L0 e10_L0 s10_L0:=fun x=>by kernel_rfl
theorem o10:Holds Tryz.prog 10 c10:=fh t10 a10 Tryz.func10 [(0,lg l10 0)] ⟨fun x d h=>(w10_L0 x).trans h,trivial⟩ (tc o44 tn)
noncomputable def t47:Tbl:=[]
noncomputable def g47 (x0:(Int×(Int×(Int×Unit)))):Option Ta41 :=
some ((x0,()),())
noncomputable def f47 (x0:(Int×(Int×(Int×Unit)))):(Int×(Int×(Int×Unit))) :=
x0
theorem n47 (x0:(Int×(Int×(Int×Unit)))):g47 x0 = some ((f47 x0,()),()):=by simp only [g47,f47,pull1]
noncomputable def c47:Ctr:={ ins:=[.v Ty93],out:=[Ty93],F:=fun x=>some ((f47 x.1,()),()) }
theorem o47:Holds Tryz.prog 47 c47:=f0T t47 (fun x=>g47 x.1) Tryz.func47 tn (fun x=>n47 x.1)
noncomputable def t48:Tbl:=[]
noncomputable def g48 (x0:Ta64):Option (Ta78×Unit) :=
some ((x0,()),())
noncomputable def f48 (x0:Ta64):Ta64 :=
x0
theorem n48 (x0:Ta64):g48 x0 = some ((f48 x0,()),()):=by simp only [g48,f48,pull1]
noncomputable def c48:Ctr:={ ins:=[.v Ty144],out:=[Ty144],F:=fun x=>some ((f48 x.1,()),()) }
theorem o48:Holds Tryz.prog 48 c48:=f0T t48 (fun x=>g48 x.1) Tryz.func48 tn (fun x=>n48 x.1)
noncomputable def t224:Tbl:=[]
noncomputable def g224 (x0:(Int×(Int×Unit))):Option (((Int×(Int×Unit))×Unit)×Unit) :=
some ((x0,()),())
noncomputable def f224 (x0:(Int×(Int×Unit))):(Int×(Int×Unit)) :=
x0
theorem n224 (x0:(Int×(Int×Unit))):g224 x0 = some ((f224 x0,()),()):=by simp only [g224,f224,pull1]
noncomputable def c224:Ctr:={ ins:=[.v Ty61],out:=[Ty61],F:=fun x=>some ((f224 x.1,()),()) }
theorem o224:Holds Tryz.prog 224 c224:=f0T t224 (fun x=>g224 x.1) Tryz.func224 tn (fun x=>n224 x.1)
noncomputable def t298:Tbl:=[]
noncomputable def g298 (x0:(Int×(Int×(Int×Unit)))):Option Ta41 :=
some ((x0,()),())
noncomputable def f298 (x0:(Int×(Int×(Int×Unit)))):(Int×(Int×(Int×Unit))) :=
x0
theorem n298 (x0:(Int×(Int×(Int×Unit)))):g298 x0 = some ((f298 x0,()),()):=by simp only [g298,f298,pull1]
noncomputable def c298:Ctr:={ ins:=[.v Ty93],out:=[Ty93],F:=fun x=>some ((f298 x.1,()),()) }
theorem o298:Holds Tryz.prog 298 c298:=f0T t298 (fun x=>g298 x.1) Tryz.func298 tn (fun x=>n298 x.1)
noncomputable def t225r:Tbl:=[(298,[],c298)]
abbrev h225r_L0:Shape:={ slots:=[(0,.v Ty99),(3,.ms 7),(4,.v (.int .i64))],boxes:=[(7,.row Ty93)] }
abbrev e225r_L0:List (XT×Shape):=[(.exit 0,{ slots:=[(3,.ms 7)],boxes:=[(7,.row Ty93)] })]
noncomputable def q225r_L0 (t0:Ta13) (t4:Int) (r7:Ta13):Option (Ta111⊕(Ta67⊕Empty)) :=
bif (decide (t4 < (t0.len:Int))) then bif (decide (0≤t4)&&decide (t4 < (t0.len:Int))) then bif (decide (0≤t4)&&decide (t4 < (r7.len:Int))) then some (.inl ((t0,((),((wI (t4 + (1:Int))),()))),((L.set r7 t4.toNat (f298 (L.get t0 t4.toNat))),()))) else none else none else some (.inr (.inl (((),()),(r7,()))))
noncomputable def s225r_L0 (x:Ta111):=q225r_L0 x.1.1 x.1.2.2.1 x.2.1
noncomputable def a225r:Nat→Option LoopAnn:=fun c=>bif Nat.beq c 0 then some (.fix h225r_L0 e225r_L0 s225r_L0) else none
noncomputable def g225r (x0:Ta13):Option Ta54 :=
bif (decide ((x0.len:Int) = (x0.len:Int))&&(decide (0≤(x0.len:Int))&&(decide ((x0.len:Int)≤2 ^ 40)&&decide (24 * (x0.len:Int)≤2 ^ 48)))) then ((fixO s225r_L0 ((x0,((),((0:Int),()))),((L.rep (x0.len:Int).toNat (Ty.zero Ty93)),()))).bind fun d2=>match d2 with | .inl y1=>some ((y1.2.1,()),()) | .inr e=>nomatch e) else none
noncomputable def c225r:Ctr:={ ins:=[.v Ty99],out:=[Ty99],F:=fun x=>g225r x.1,fr:=1 }
noncomputable def l225r:List (Nat×Code):=loopsIn (Tryz.f225.body.getD .skip) 0
theorem w225r_L0:LW t225r a225r l225r 0 0 h225r_L0 e225r_L0 s225r_L0:=fun x=>by kernel_rfl
theorem o225r:Holds Tryz.prog 225 c225r:=fh t225r a225r Tryz.func225 [(0,lg l225r 0)] ⟨fun x d h=>(w225r_L0 x).trans h,trivial⟩ (tc o298 tn)
noncomputable def t131r:Tbl:=[(224,[],c224),(225,[],c225r)]
noncomputable def g131r (x0:Ta98):Option (Ta104×Unit) :=
(g225r x0.2.2.2.1).bind fun y1=>some (((x0.1,(x0.2.1,((f224 x0.2.2.1),y1.1))),()),())
noncomputable def c131r:Ctr:={ ins:=[.v Ty156],out:=[Ty156],F:=fun x=>g131r x.1,fr:=1 }
theorem o131r:Holds Tryz.prog 131 c131r:=f0 t131r Tryz.func131 (tc o224 (tc o225r tn))
noncomputable def t49r:Tbl:=[(131,[],c131r)]
abbrev h49r_L0:Shape:={ slots:=[(0,.v Ty159),(3,.ms 7),(4,.v (.int .i64))],boxes:=[(7,.row Ty156)] }
abbrev e49r_L0:List (XT×Shape):=[(.exit 0,{ slots:=[(3,.ms 7)],boxes:=[(7,.row Ty156)] })]
noncomputable def q49r_L0 (t0:Ta102) (t4:Int) (r7:Ta102):Option ((Ta121×Ta110)⊕(((Unit×Unit)×Ta110)⊕Empty)) :=
bif (decide (t4 < (t0.len:Int))) then bif (decide (0≤t4)&&decide (t4 < (t0.len:Int))) then (g131r (L.get t0 t4.toNat)).bind fun y1=>bif (decide (0≤t4)&&decide (t4 < (r7.len:Int))) then some (.inl ((t0,((),((wI (t4 + (1:Int))),()))),((L.set r7 t4.toNat (y1.1.1.1,(y1.1.1.2.1,(y1.1.1.2.2.1,y1.1.1.2.2.2)))),()))) else none else none else some (.inr (.inl (((),()),(r7,()))))
noncomputable def s49r_L0 (x:(Ta121×Ta110)):=q49r_L0 x.1.1 x.1.2.2.1 x.2.1
noncomputable def a49r:Nat→Option LoopAnn:=fun c=>bif Nat.beq c 0 then some (.fix h49r_L0 e49r_L0 s49r_L0) else none
noncomputable def g49r (x0:Ta102):Option (Ta110×Unit) :=
bif (decide ((x0.len:Int) = (x0.len:Int))&&(decide (0≤(x0.len:Int))&&(decide ((x0.len:Int)≤2 ^ 40)&&decide (64 * (x0.len:Int)≤2 ^ 48)))) then ((fixO s49r_L0 ((x0,((),((0:Int),()))),((L.rep (x0.len:Int).toNat (Ty.zero Ty156)),()))).bind fun d3=>match d3 with | .inl y2=>some ((y2.2.1,()),()) | .inr e=>nomatch e) else none
noncomputable def c49r:Ctr:={ ins:=[.v Ty159],out:=[Ty159],F:=fun x=>g49r x.1,fr:=1 }
noncomputable def l49r:List (Nat×Code):=loopsIn (Tryz.f49.body.getD .skip) 0
theorem w49r_L0:LW t49r a49r l49r 0 0 h49r_L0 e49r_L0 s49r_L0:=fun x=>by kernel_rfl
theorem o49r:Holds Tryz.prog 49 c49r:=fh t49r a49r Tryz.func49 [(0,lg l49r 0)] ⟨fun x d h=>(w49r_L0 x).trans h,trivial⟩ (tc o131r tn)
noncomputable def t50r:Tbl:=[]
abbrev h50r_L0:Shape:={ slots:=[(0,.v (.sl (.int .i64))),(3,.ms 7),(4,.v (.int .i64))],boxes:=[(7,.row (.int .i64))] }
abbrev e50r_L0:List (XT×Shape):=[(.exit 0,{ slots:=[(3,.ms 7)],boxes:=[(7,.row (.int .i64))] })]
noncomputable def q50r_L0 (t0:(L Int)) (t4:Int) (r7:(L Int)):Option (Ta58⊕(((Unit×Unit)×((L Int)×Unit))⊕Empty)) :=
bif (decide (t4 < (t0.len:Int))) then bif (decide (0≤t4)&&decide (t4 < (t0.len:Int))) then bif (decide (0≤t4)&&decide (t4 < (r7.len:Int))) then some (.inl ((t0,((),((wI (t4 + (1:Int))),()))),((L.set r7 t4.toNat (L.get t0 t4.toNat)),()))) else none else none else some (.inr (.inl (((),()),(r7,()))))
noncomputable def s50r_L0 (x:Ta58):=q50r_L0 x.1.1 x.1.2.2.1 x.2.1
noncomputable def a50r:Nat→Option LoopAnn:=fun c=>bif Nat.beq c 0 then some (.fix h50r_L0 e50r_L0 s50r_L0) else none
noncomputable def g50r (x0:(L Int)):Option (((L Int)×Unit)×Unit) :=
bif (decide ((x0.len:Int) = (x0.len:Int))&&(decide (0≤(x0.len:Int))&&(decide ((x0.len:Int)≤2 ^ 40)&&decide (8 * (x0.len:Int)≤2 ^ 48)))) then ((fixO s50r_L0 ((x0,((),((0:Int),()))),((L.rep (x0.len:Int).toNat (Ty.zero (.int .i64))),()))).bind fun d2=>match d2 with | .inl y1=>some ((y1.2.1,()),()) | .inr e=>nomatch e) else none
noncomputable def c50r:Ctr:={ ins:=[.v (.sl (.int .i64))],out:=[(.sl (.int .i64))],F:=fun x=>g50r x.1,fr:=1 }
noncomputable def l50r:List (Nat×Code):=loopsIn (Tryz.f50.body.getD .skip) 0
theorem w50r_L0:LW t50r a50r l50r 0 0 h50r_L0 e50r_L0 s50r_L0:=fun x=>by kernel_rfl
theorem o50r:Holds Tryz.prog 50 c50r:=fh t50r a50r Tryz.func50 [(0,lg l50r 0)] ⟨fun x d h=>(w50r_L0 x).trans h,trivial⟩ tn
noncomputable def t132:Tbl:=[]
noncomputable def g132 (x0:Ta17):Option ((Ta17×Unit)×Unit) :=
some ((x0,()),())
noncomputable def f132 (x0:Ta17):Ta17 :=
x0
theorem n132 (x0:Ta17):g132 x0 = some ((f132 x0,()),()):=by simp only [g132,f132,pull1]
noncomputable def c132:Ctr:={ ins:=[.v Ty116],out:=[Ty116],F:=fun x=>some ((f132 x.1,()),()) }
theorem o132:Holds Tryz.prog 132 c132:=f0T t132 (fun x=>g132 x.1) Tryz.func132 tn (fun x=>n132 x.1)
noncomputable def t51r:Tbl:=[(132,[],c132)]
abbrev h51r_L0:Shape:={ slots:=[(0,.v Ty118),(3,.ms 7),(4,.v (.int .i64))],boxes:=[(7,.row Ty116)] }
abbrev e51r_L0:List (XT×Shape):=[(.exit 0,{ slots:=[(3,.ms 7)],boxes:=[(7,.row Ty116)] })]
noncomputable def q51r_L0 (t0:Ta32) (t4:Int) (r7:Ta32):Option (((Ta32×(Unit×(Int×Unit)))×Ta49)⊕(((Unit×Unit)×Ta49)⊕Empty)) :=
bif (decide (t4 < (t0.len:Int))) then bif (decide (0≤t4)&&decide (t4 < (t0.len:Int))) then bif (decide (0≤t4)&&decide (t4 < (r7.len:Int))) then some (.inl ((t0,((),((wI (t4 + (1:Int))),()))),((L.set r7 t4.toNat (f132 (L.get t0 t4.toNat))),()))) else none else none else some (.inr (.inl (((),()),(r7,()))))
noncomputable def s51r_L0 (x:((Ta32×(Unit×(Int×Unit)))×Ta49)):=q51r_L0 x.1.1 x.1.2.2.1 x.2.1
noncomputable def a51r:Nat→Option LoopAnn:=fun c=>bif Nat.beq c 0 then some (.fix h51r_L0 e51r_L0 s51r_L0) else none
noncomputable def g51r (x0:Ta32):Option (Ta49×Unit) :=
bif (decide ((x0.len:Int) = (x0.len:Int))&&(decide (0≤(x0.len:Int))&&(decide ((x0.len:Int)≤2 ^ 40)&&decide (32 * (x0.len:Int)≤2 ^ 48)))) then ((fixO s51r_L0 ((x0,((),((0:Int),()))),((L.rep (x0.len:Int).toNat (Ty.zero Ty116)),()))).bind fun d2=>match d2 with | .inl y1=>some ((y1.2.1,()),()) | .inr e=>nomatch e) else none
noncomputable def c51r:Ctr:={ ins:=[.v Ty118],out:=[Ty118],F:=fun x=>g51r x.1,fr:=1 }
noncomputable def l51r:List (Nat×Code):=loopsIn (Tryz.f51.body.getD .skip) 0
theorem w51r_L0:LW t51r a51r l51r 0 0 h51r_L0 e51r_L0 s51r_L0:=fun x=>by kernel_rfl
theorem o51r:Holds Tryz.prog 51 c51r:=fh t51r a51r Tryz.func51 [(0,lg l51r 0)] ⟨fun x d h=>(w51r_L0 x).trans h,trivial⟩ (tc o132 tn)
noncomputable def t133:Tbl:=[]
noncomputable def g133 (x0:(Int×(Int×(Int×Unit)))):Option Ta41 :=
some ((x0,()),())
noncomputable def f133 (x0:(Int×(Int×(Int×Unit)))):(Int×(Int×(Int×Unit))) :=
x0
theorem n133 (x0:(Int×(Int×(Int×Unit)))):g133 x0 = some ((f133 x0,()),()):=by simp only [g133,f133,pull1]
noncomputable def c133:Ctr:={ ins:=[.v Ty93],out:=[Ty93],F:=fun x=>some ((f133 x.1,()),()) }
theorem o133:Holds Tryz.prog 133 c133:=f0T t133 (fun x=>g133 x.1) Tryz.func133 tn (fun x=>n133 x.1)
noncomputable def t52r:Tbl:=[(133,[],c133)]
abbrev h52r_L0:Shape:={ slots:=[(0,.v Ty99),(3,.ms 7),(4,.v (.int .i64))],boxes:=[(7,.row Ty93)] }
abbrev e52r_L0:List (XT×Shape):=[(.exit 0,{ slots:=[(3,.ms 7)],boxes:=[(7,.row Ty93)] })]
noncomputable def q52r_L0 (t0:Ta13) (t4:Int) (r7:Ta13):Option (Ta111⊕(Ta67⊕Empty)) :=
bif (decide (t4 < (t0.len:Int))) then bif (decide (0≤t4)&&decide (t4 < (t0.len:Int))) then bif (decide (0≤t4)&&decide (t4 < (r7.len:Int))) then some (.inl ((t0,((),((wI (t4 + (1:Int))),()))),((L.set r7 t4.toNat (f133 (L.get t0 t4.toNat))),()))) else none else none else some (.inr (.inl (((),()),(r7,()))))
noncomputable def s52r_L0 (x:Ta111):=q52r_L0 x.1.1 x.1.2.2.1 x.2.1
noncomputable def a52r:Nat→Option LoopAnn:=fun c=>bif Nat.beq c 0 then some (.fix h52r_L0 e52r_L0 s52r_L0) else none
noncomputable def g52r (x0:Ta13):Option Ta54 :=
bif (decide ((x0.len:Int) = (x0.len:Int))&&(decide (0≤(x0.len:Int))&&(decide ((x0.len:Int)≤2 ^ 40)&&decide (24 * (x0.len:Int)≤2 ^ 48)))) then ((fixO s52r_L0 ((x0,((),((0:Int),()))),((L.rep (x0.len:Int).toNat (Ty.zero Ty93)),()))).bind fun d2=>match d2 with | .inl y1=>some ((y1.2.1,()),()) | .inr e=>nomatch e) else none
noncomputable def c52r:Ctr:={ ins:=[.v Ty99],out:=[Ty99],F:=fun x=>g52r x.1,fr:=1 }
noncomputable def l52r:List (Nat×Code):=loopsIn (Tryz.f52.body.getD .skip) 0
theorem w52r_L0:LW t52r a52r l52r 0 0 h52r_L0 e52r_L0 s52r_L0:=fun x=>by kernel_rfl
theorem o52r:Holds Tryz.prog 52 c52r:=fh t52r a52r Tryz.func52 [(0,lg l52r 0)] ⟨fun x d h=>(w52r_L0 x).trans h,trivial⟩ (tc o133 tn)
noncomputable def t12r:Tbl:=[(47,[],c47),(48,[],c48),(49,[],c49r),(50,[],c50r),(51,[],c51r),(52,[],c52r)]
noncomputable def g12r (x0:Ta176):Option (Ta178×Unit) :=
(g49r x0.2.2.2.2.2.2.2.1).bind fun y1=>(g50r x0.2.2.2.2.2.2.2.2.1).bind fun y2=>(g51r x0.2.2.2.2.2.2.2.2.2.1).bind fun y3=>(g52r x0.2.2.2.2.2.2.2.2.2.2.1).bind fun y4=>some (((x0.1,((f47 x0.2.1),(x0.2.2.1,((f48 x0.2.2.2.1),(x0.2.2.2.2.1,(x0.2.2.2.2.2.1,(x0.2.2.2.2.2.2.1,(y1.1.1,(y2.1.1,(y3.1.1,y4.1)))))))))),()),())
noncomputable def c12r:Ctr:={ ins:=[.v Ty202],out:=[Ty202],F:=fun x=>g12r x.1,fr:=1 }
theorem o12r:Holds Tryz.prog 12 c12r:=f0 t12r Tryz.func12 (tc o47 (tc o48 (tc o49r (tc o50r (tc o51r (tc o52r tn))))))
noncomputable def t53r:Tbl:=[]
abbrev h53r_L0:Shape:={ slots:=[(0,.v (.sl (.int .u8))),(3,.ms 7),(4,.v (.int .i64))],boxes:=[(7,.row (.int .u8))] }
abbrev e53r_L0:List (XT×Shape):=[(.exit 0,{ slots:=[(3,.ms 7)],boxes:=[(7,.row (.int .u8))] })]
noncomputable def q53r_L0 (t0:(L Int)) (t4:Int) (r7:(L Int)):Option (Ta58⊕(((Unit×Unit)×((L Int)×Unit))⊕Empty)) :=
bif (decide (t4 < (t0.len:Int))) then bif (decide (0≤t4)&&decide (t4 < (t0.len:Int))) then bif (decide (0≤t4)&&decide (t4 < (r7.len:Int))) then some (.inl ((t0,((),((wI (t4 + (1:Int))),()))),((L.set r7 t4.toNat (L.get t0 t4.toNat)),()))) else none else none else some (.inr (.inl (((),()),(r7,()))))
noncomputable def s53r_L0 (x:Ta58):=q53r_L0 x.1.1 x.1.2.2.1 x.2.1
noncomputable def a53r:Nat→Option LoopAnn:=fun c=>bif Nat.beq c 0 then some (.fix h53r_L0 e53r_L0 s53r_L0) else none
noncomputable def g53r (x0:(L Int)):Option (((L Int)×Unit)×Unit) :=
bif (decide ((x0.len:Int) = (x0.len:Int))&&(decide (0≤(x0.len:Int))&&(decide ((x0.len:Int)≤2 ^ 40)&&decide (1 * (x0.len:Int)≤2 ^ 48)))) then ((fixO s53r_L0 ((x0,((),((0:Int),()))),((L.rep (x0.len:Int).toNat (Ty.zero (.int .u8))),()))).bind fun d2=>match d2 with | .inl y1=>some ((y1.2.1,()),()) | .inr e=>nomatch e) else none
noncomputable def c53r:Ctr:={ ins:=[.v (.sl (.int .u8))],out:=[(.sl (.int .u8))],F:=fun x=>g53r x.1,fr:=1 }
noncomputable def l53r:List (Nat×Code):=loopsIn (Tryz.f53.body.getD .skip) 0
theorem w53r_L0:LW t53r a53r l53r 0 0 h53r_L0 e53r_L0 s53r_L0:=fun x=>by kernel_rfl
theorem o53r:Holds Tryz.prog 53 c53r:=fh t53r a53r Tryz.func53 [(0,lg l53r 0)] ⟨fun x d h=>(w53r_L0 x).trans h,trivial⟩ tn
noncomputable def t13r:Tbl:=[(53,[],c53r)]
abbrev h13r_L0:Shape:={ slots:=[(0,.v (.sl (.sl (.int .u8)))),(3,.ms 7),(4,.v (.int .i64))],boxes:=[(7,.row (.sl (.int .u8)))] }
abbrev e13r_L0:List (XT×Shape):=[(.exit 0,{ slots:=[(3,.ms 7)],boxes:=[(7,.row (.sl (.int .u8)))] })]
noncomputable def q13r_L0 (t0:(L (L Int))) (t4:Int) (r7:(L (L Int))):Option (Ta76⊕(Ta33⊕Empty)) :=
bif (decide (t4 < (t0.len:Int))) then bif (decide (0≤t4)&&decide (t4 < (t0.len:Int))) then (g53r (L.get t0 t4.toNat)).bind fun y1=>bif (decide (0≤t4)&&decide (t4 < (r7.len:Int))) then some (.inl ((t0,((),((wI (t4 + (1:Int))),()))),((L.set r7 t4.toNat y1.1.1),()))) else none else none else some (.inr (.inl (((),()),(r7,()))))
noncomputable def s13r_L0 (x:Ta76):=q13r_L0 x.1.1 x.1.2.2.1 x.2.1
noncomputable def a13r:Nat→Option LoopAnn:=fun c=>bif Nat.beq c 0 then some (.fix h13r_L0 e13r_L0 s13r_L0) else none
noncomputable def g13r (x0:(L (L Int))):Option Ta7 :=
bif (decide ((x0.len:Int) = (x0.len:Int))&&(decide (0≤(x0.len:Int))&&(decide ((x0.len:Int)≤2 ^ 40)&&decide (24 * (x0.len:Int)≤2 ^ 48)))) then ((fixO s13r_L0 ((x0,((),((0:Int),()))),((L.rep (x0.len:Int).toNat (Ty.zero (.sl (.int .u8)))),()))).bind fun d3=>match d3 with | .inl y2=>some ((y2.2.1,()),()) | .inr e=>nomatch e) else none
noncomputable def c13r:Ctr:={ ins:=[.v (.sl (.sl (.int .u8)))],out:=[(.sl (.sl (.int .u8)))],F:=fun x=>g13r x.1,fr:=1 }
noncomputable def l13r:List (Nat×Code):=loopsIn (Tryz.f13.body.getD .skip) 0
theorem w13r_L0:LW t13r a13r l13r 0 0 h13r_L0 e13r_L0 s13r_L0:=fun x=>by kernel_rfl
theorem o13r:Holds Tryz.prog 13 c13r:=fh t13r a13r Tryz.func13 [(0,lg l13r 0)] ⟨fun x d h=>(w13r_L0 x).trans h,trivial⟩ (tc o53r tn)
noncomputable def t97:Tbl:=[]
noncomputable def g97 (x0:Int) (x1:Int) (x2:Int):Option ((Bool×Unit)×Unit) :=
bif (decide (x0 ≥ x1)) then some (((decide (x0≤x2)),()),()) else some ((false,()),())
noncomputable def f97 (x0:Int) (x1:Int) (x2:Int):Bool :=
bif (decide (x0 ≥ x1)) then (decide (x0≤x2)) else false
theorem n97 (x0:Int) (x1:Int) (x2:Int):g97 x0 x1 x2 = some ((f97 x0 x1 x2,()),()):=by simp only [g97,f97,pull1]
noncomputable def c97:Ctr:={ ins:=[.v (.int .i64),.v (.int .i64),.v (.int .i64)],out:=[.bool],F:=fun x=>some ((f97 x.1 x.2.1 x.2.2.1,()),()) }
theorem o97:Holds Tryz.prog 97 c97:=f0T t97 (fun x=>g97 x.1 x.2.1 x.2.2.1) Tryz.func97 tn (fun x=>n97 x.1 x.2.1 x.2.2.1)
noncomputable def t119:Tbl:=[(97,[],c97)]
noncomputable def g119 (x0:(Int×(Int×(Int×Unit)))):Option ((Bool×Unit)×Unit) :=
bif (x0.1 == (1:Int)) then bif (x0.2.2.1 == (4:Int)) then some (((f97 x0.2.1 (1:Int) (4:Int)),()),()) else bif (x0.2.2.1 == (8:Int)) then some (((f97 x0.2.1 (1:Int) (4:Int)),()),()) else bif (x0.2.2.1 == (16:Int)) then some (((f97 x0.2.1 (1:Int) (4:Int)),()),()) else bif (x0.2.2.1 == (32:Int)) then some (((f97 x0.2.1 (1:Int) (4:Int)),()),()) else some ((false,()),()) else bif (x0.1 == (2:Int)) then bif (x0.2.2.1 == (4:Int)) then some (((f97 x0.2.1 (1:Int) (4:Int)),()),()) else bif (x0.2.2.1 == (8:Int)) then some (((f97 x0.2.1 (1:Int) (4:Int)),()),()) else bif (x0.2.2.1 == (16:Int)) then some (((f97 x0.2.1 (1:Int) (4:Int)),()),()) else bif (x0.2.2.1 == (32:Int)) then some (((f97 x0.2.1 (1:Int) (4:Int)),()),()) else some ((false,()),()) else bif (x0.1 == (4:Int)) then bif (x0.2.2.1 == (4:Int)) then some (((f97 x0.2.1 (1:Int) (4:Int)),()),()) else bif (x0.2.2.1 == (8:Int)) then some (((f97 x0.2.1 (1:Int) (4:Int)),()),()) else bif (x0.2.2.1 == (16:Int)) then some (((f97 x0.2.1 (1:Int) (4:Int)),()),()) else bif (x0.2.2.1 == (32:Int)) then some (((f97 x0.2.1 (1:Int) (4:Int)),()),()) else some ((false,()),()) else bif (x0.1 == (8:Int)) then bif (x0.2.2.1 == (4:Int)) then some (((f97 x0.2.1 (1:Int) (4:Int)),()),()) else bif (x0.2.2.1 == (8:Int)) then some (((f97 x0.2.1 (1:Int) (4:Int)),()),()) else bif (x0.2.2.1 == (16:Int)) then some (((f97 x0.2.1 (1:Int) (4:Int)),()),()) else bif (x0.2.2.1 == (32:Int)) then some (((f97 x0.2.1 (1:Int) (4:Int)),()),()) else some ((false,()),()) else bif (x0.2.2.1 == (4:Int)) then bif (x0.1 == (16:Int)) then some (((f97 x0.2.1 (1:Int) (4:Int)),()),()) else some ((false,()),()) else bif (x0.2.2.1 == (8:Int)) then bif (x0.1 == (16:Int)) then some (((f97 x0.2.1 (1:Int) (4:Int)),()),()) else some ((false,()),()) else bif (x0.2.2.1 == (16:Int)) then bif (x0.1 == (16:Int)) then some (((f97 x0.2.1 (1:Int) (4:Int)),()),()) else some ((false,()),()) else bif (x0.1 == (16:Int)) then bif (x0.2.2.1 == (32:Int)) then some (((f97 x0.2.1 (1:Int) (4:Int)),()),()) else some ((false,()),()) else some ((false,()),())
noncomputable def f119 (x0:(Int×(Int×(Int×Unit)))):Bool :=
bif (x0.1 == (1:Int)) then bif (x0.2.2.1 == (4:Int)) then (f97 x0.2.1 (1:Int) (4:Int)) else bif (x0.2.2.1 == (8:Int)) then (f97 x0.2.1 (1:Int) (4:Int)) else bif (x0.2.2.1 == (16:Int)) then (f97 x0.2.1 (1:Int) (4:Int)) else bif (x0.2.2.1 == (32:Int)) then (f97 x0.2.1 (1:Int) (4:Int)) else false else bif (x0.1 == (2:Int)) then bif (x0.2.2.1 == (4:Int)) then (f97 x0.2.1 (1:Int) (4:Int)) else bif (x0.2.2.1 == (8:Int)) then (f97 x0.2.1 (1:Int) (4:Int)) else bif (x0.2.2.1 == (16:Int)) then (f97 x0.2.1 (1:Int) (4:Int)) else bif (x0.2.2.1 == (32:Int)) then (f97 x0.2.1 (1:Int) (4:Int)) else false else bif (x0.1 == (4:Int)) then bif (x0.2.2.1 == (4:Int)) then (f97 x0.2.1 (1:Int) (4:Int)) else bif (x0.2.2.1 == (8:Int)) then (f97 x0.2.1 (1:Int) (4:Int)) else bif (x0.2.2.1 == (16:Int)) then (f97 x0.2.1 (1:Int) (4:Int)) else bif (x0.2.2.1 == (32:Int)) then (f97 x0.2.1 (1:Int) (4:Int)) else false else bif (x0.1 == (8:Int)) then bif (x0.2.2.1 == (4:Int)) then (f97 x0.2.1 (1:Int) (4:Int)) else bif (x0.2.2.1 == (8:Int)) then (f97 x0.2.1 (1:Int) (4:Int)) else bif (x0.2.2.1 == (16:Int)) then (f97 x0.2.1 (1:Int) (4:Int)) else bif (x0.2.2.1 == (32:Int)) then (f97 x0.2.1 (1:Int) (4:Int)) else false else bif (x0.2.2.1 == (4:Int)) then bif (x0.1 == (16:Int)) then (f97 x0.2.1 (1:Int) (4:Int)) else false else bif (x0.2.2.1 == (8:Int)) then bif (x0.1 == (16:Int)) then (f97 x0.2.1 (1:Int) (4:Int)) else false else bif (x0.2.2.1 == (16:Int)) then bif (x0.1 == (16:Int)) then (f97 x0.2.1 (1:Int) (4:Int)) else false else bif (x0.1 == (16:Int)) then bif (x0.2.2.1 == (32:Int)) then (f97 x0.2.1 (1:Int) (4:Int)) else false else false
theorem n119 (x0:(Int×(Int×(Int×Unit)))):g119 x0 = some ((f119 x0,()),()):=by simp only [g119,f119,pull1]
noncomputable def c119:Ctr:={ ins:=[.v Ty93],out:=[.bool],F:=fun x=>some ((f119 x.1,()),()) }
theorem o119:Holds Tryz.prog 119 c119:=f0T t119 (fun x=>g119 x.1) Tryz.func119 (tc o97 tn) (fun x=>n119 x.1)
noncomputable def t294:Tbl:=[(97,[],c97)]
noncomputable def g294 (x0:Ta64):Option ((Bool×Unit)×Unit) :=
bif (f97 x0.1 (1:Int) (20:Int)) then bif (f97 x0.2.1 (0:Int) (50:Int)) then bif (f97 x0.2.2.1 (0:Int) (50:Int)) then bif (f97 x0.2.2.2.1 (0:Int) (50:Int)) then bif (f97 x0.2.2.2.2.1 (0:Int) (50:Int)) then bif (f97 x0.2.2.2.2.2.1 (0:Int) (50:Int)) then some (((f97 x0.2.2.2.2.2.2.1 (0:Int) (50:Int)),()),()) else some ((false,()),()) else some ((false,()),()) else some ((false,()),()) else some ((false,()),()) else some ((false,()),()) else some ((false,()),())
noncomputable def f294 (x0:Ta64):Bool :=
bif (f97 x0.1 (1:Int) (20:Int)) then bif (f97 x0.2.1 (0:Int) (50:Int)) then bif (f97 x0.2.2.1 (0:Int) (50:Int)) then bif (f97 x0.2.2.2.1 (0:Int) (50:Int)) then bif (f97 x0.2.2.2.2.1 (0:Int) (50:Int)) then bif (f97 x0.2.2.2.2.2.1 (0:Int) (50:Int)) then (f97 x0.2.2.2.2.2.2.1 (0:Int) (50:Int)) else false else false else false else false else false else false
theorem n294 (x0:Ta64):g294 x0 = some ((f294 x0,()),()):=by simp only [g294,f294,pull1]
noncomputable def c294:Ctr:={ ins:=[.v Ty144],out:=[.bool],F:=fun x=>some ((f294 x.1,()),()) }
theorem o294:Holds Tryz.prog 294 c294:=f0T t294 (fun x=>g294 x.1) Tryz.func294 (tc o97 tn) (fun x=>n294 x.1)
noncomputable def t350r:Tbl:=[]
noncomputable def g350r:Option (((L Int)×Unit)×Unit) :=
some (((L.of (Ty.zero (.int .i64)) [(0:Int),(7:Int),(7:Int),(7:Int),(7:Int),(7:Int),(7:Int),(7:Int),(7:Int),(7:Int),(7:Int),(7:Int),(7:Int),(11:Int),(9:Int),(11:Int),(11:Int),(11:Int),(11:Int),(11:Int),(11:Int),(11:Int),(9:Int),(10:Int),(1:Int),(11:Int),(11:Int),(11:Int),(9:Int),(9:Int),(0:Int),(0:Int),(8:Int)]),()),())
noncomputable def f350r:(L Int) :=
(L.of (Ty.zero (.int .i64)) [(0:Int),(7:Int),(7:Int),(7:Int),(7:Int),(7:Int),(7:Int),(7:Int),(7:Int),(7:Int),(7:Int),(7:Int),(7:Int),(11:Int),(9:Int),(11:Int),(11:Int),(11:Int),(11:Int),(11:Int),(11:Int),(11:Int),(9:Int),(10:Int),(1:Int),(11:Int),(11:Int),(11:Int),(9:Int),(9:Int),(0:Int),(0:Int),(8:Int)])
theorem n350r:g350r = some ((f350r,()),()):=by simp only [g350r,f350r,pull1]
noncomputable def c350r:Ctr:={ ins:=[],out:=[(.sl (.int .i64))],F:=fun x=>some ((f350r,()),()),fr:=1 }
theorem o350r:Holds Tryz.prog 350 c350r:=f0T t350r (fun x=>g350r) Tryz.func350 tn (fun x=>n350r)
noncomputable def t324:Tbl:=[(97,[],c97),(350,[],c350r)]
noncomputable def g324 (x0:Int):Option ((Int×Unit)×Unit) :=
bif (!(f97 x0 (0:Int) (32:Int))) then some (((-1:Int),()),()) else bif (decide (0≤x0)&&decide (x0 < ((f350r).len:Int))) then some (((L.get (f350r) x0.toNat),()),()) else none
noncomputable def c324:Ctr:={ ins:=[.v (.int .i64)],out:=[(.int .i64)],F:=fun x=>g324 x.1 }
theorem o324:Holds Tryz.prog 324 c324:=f0 t324 Tryz.func324 (tc o97 (tc o350r tn))
noncomputable def t275:Tbl:=[(294,[],c294),(324,[],c324),(97,[],c97)]
noncomputable def g275 (x0:Ta64) (x1:Int):Option ((Int×Unit)×Unit) :=
bif (!(f294 x0)) then some (((-1:Int),()),()) else (g324 x1).bind fun y1=>bif (decide (y1.1.1 < (0:Int))) then some (((-1:Int),()),()) else bif (x1 == (9:Int)) then some (((wI (x0.1 + x0.2.1)),()),()) else bif (x1 == (10:Int)) then some (((wI (x0.1 + x0.2.1)),()),()) else bif (f97 x1 (15:Int) (18:Int)) then some (((wI (x0.1 + x0.2.2.1)),()),()) else bif (decide (x1 ≥ (25:Int))) then some (((wI (x0.1 + x0.2.2.2.2.2.1)),()),()) else some ((x0.1,()),())
noncomputable def c275:Ctr:={ ins:=[.v Ty144,.v (.int .i64)],out:=[(.int .i64)],F:=fun x=>g275 x.1 x.2.1 }
theorem o275:Holds Tryz.prog 275 c275:=f0 t275 Tryz.func275 (tc o294 (tc o324 (tc o97 tn)))
noncomputable def t327:Tbl:=[(294,[],c294)]
noncomputable def g327 (x0:Ta64) (x1:Ta8):Option ((Int×Unit)×Unit) :=
bif (!(f294 x0)) then some (((-1:Int),()),()) else bif (!x1.1) then bif (!x1.2.1) then bif x1.2.2.1 then some (((wI ((wI ((wI ((0:Int) + x0.2.2.2.1)) + x0.2.2.2.2.1)) + x0.2.2.2.2.2.2.1)),()),()) else some (((wI ((wI ((0:Int) + x0.2.2.2.1)) + x0.2.2.2.2.1)),()),()) else bif x1.2.2.1 then some (((wI ((wI ((0:Int) + x0.2.2.2.1)) + x0.2.2.2.2.2.2.1)),()),()) else some (((wI ((0:Int) + x0.2.2.2.1)),()),()) else bif (!x1.2.1) then bif x1.2.2.1 then some (((wI ((wI ((0:Int) + x0.2.2.2.2.1)) + x0.2.2.2.2.2.2.1)),()),()) else some (((wI ((0:Int) + x0.2.2.2.2.1)),()),()) else bif x1.2.2.1 then some (((wI ((0:Int) + x0.2.2.2.2.2.2.1)),()),()) else some (((0:Int),()),())
noncomputable def f327 (x0:Ta64) (x1:Ta8):Int :=
bif (!(f294 x0)) then (-1:Int) else bif (!x1.1) then bif (!x1.2.1) then bif x1.2.2.1 then (wI ((wI ((wI ((0:Int) + x0.2.2.2.1)) + x0.2.2.2.2.1)) + x0.2.2.2.2.2.2.1)) else (wI ((wI ((0:Int) + x0.2.2.2.1)) + x0.2.2.2.2.1)) else bif x1.2.2.1 then (wI ((wI ((0:Int) + x0.2.2.2.1)) + x0.2.2.2.2.2.2.1)) else (wI ((0:Int) + x0.2.2.2.1)) else bif (!x1.2.1) then bif x1.2.2.1 then (wI ((wI ((0:Int) + x0.2.2.2.2.1)) + x0.2.2.2.2.2.2.1)) else (wI ((0:Int) + x0.2.2.2.2.1)) else bif x1.2.2.1 then (wI ((0:Int) + x0.2.2.2.2.2.2.1)) else (0:Int)
theorem n327 (x0:Ta64) (x1:Ta8):g327 x0 x1 = some ((f327 x0 x1,()),()):=by simp only [g327,f327,pull1]
noncomputable def c327:Ctr:={ ins:=[.v Ty144,.v (.pair .bool (.pair .bool (.pair .bool .unit)))],out:=[(.int .i64)],F:=fun x=>some ((f327 x.1 x.2.1,()),()) }
theorem o327:Holds Tryz.prog 327 c327:=f0T t327 (fun x=>g327 x.1 x.2.1) Tryz.func327 (tc o294 tn) (fun x=>n327 x.1 x.2.1)
noncomputable def t314:Tbl:=[(327,[],c327)]
abbrev h314_L0:Shape:={ slots:=[(1,.bx 1 0),(3,.v (.int .i64)),(4,.v (.int .i64))],boxes:=[(1,.typ Ty144)] }
abbrev e314_L0:List (XT×Shape):=[(.exit 0,{ slots:=[(3,.v (.int .i64))],boxes:=[] })]
noncomputable def q314_L0 (t3:Int) (t4:Int) (b1:Ta64):Option (Ta108⊕(((Int×Unit)×Unit)⊕Empty)) :=
bif (decide (t4 < (8:Int))) then bif (decide ((f327 b1 (((Int.tmod t4 (2:Int)) == (1:Int)),(((Int.tmod (wI (Int.tdiv t4 (2:Int))) (2:Int)) == (1:Int)),(((wI (Int.tdiv t4 (4:Int))) == (1:Int)),())))) > t3)) then some (.inl (((),((f327 b1 (((Int.tmod t4 (2:Int)) == (1:Int)),(((Int.tmod (wI (Int.tdiv t4 (2:Int))) (2:Int)) == (1:Int)),(((wI (Int.tdiv t4 (4:Int))) == (1:Int)),())))),((wI (t4 + (1:Int))),()))),(b1,()))) else some (.inl (((),(t3,((wI (t4 + (1:Int))),()))),(b1,()))) else some (.inr (.inl ((t3,()),())))
noncomputable def s314_L0 (x:Ta108):=q314_L0 x.1.2.1 x.1.2.2.1 x.2.1
noncomputable def a314:Nat→Option LoopAnn:=fun c=>bif Nat.beq c 0 then some (.fix h314_L0 e314_L0 s314_L0) else none
noncomputable def g314 (x0:Ta64):Option ((Int×Unit)×Unit) :=
(fixO s314_L0 (((),((-1:Int),((0:Int),()))),(x0,()))).bind fun d2=>match d2 with | .inl y1=>some ((y1.1.1,()),()) | .inr e=>nomatch e
noncomputable def c314:Ctr:={ ins:=[.v Ty144],out:=[(.int .i64)],F:=fun x=>g314 x.1 }
noncomputable def l314:List (Nat×Code):=loopsIn (Tryz.f314.body.getD .skip) 0
theorem w314_L0:LW t314 a314 l314 0 0 h314_L0 e314_L0 s314_L0:=fun x=>by kernel_rfl
theorem o314:Holds Tryz.prog 314 c314:=fh t314 a314 Tryz.func314 [(0,lg l314 0)] ⟨fun x d h=>(w314_L0 x).trans h,trivial⟩ (tc o327 tn)
noncomputable def t265:Tbl:=[(294,[],c294),(275,[],c275),(314,[],c314)]
abbrev h265_L0:Shape:={ slots:=[(1,.bx 1 0),(3,.v (.int .i64)),(4,.v (.int .i64))],boxes:=[(1,.typ Ty144)] }
abbrev e265_L0:List (XT×Shape):=[(.exit 0,{ slots:=[(1,.bx 1 0),(3,.v (.int .i64))],boxes:=[(1,.typ Ty144)] })]
noncomputable def q265_L0 (t3:Int) (t4:Int) (b1:Ta64):Option (Ta108⊕(((Unit×(Int×Unit))×Ta78)⊕Empty)) :=
bif (decide (t4 < (33:Int))) then (g275 b1 t4).bind fun y1=>bif (decide (y1.1.1 > t3)) then (g275 b1 t4).bind fun y2=>some (.inl (((),(y2.1.1,((wI (t4 + (1:Int))),()))),(b1,()))) else some (.inl (((),(t3,((wI (t4 + (1:Int))),()))),(b1,()))) else some (.inr (.inl (((),(t3,())),(b1,()))))
noncomputable def s265_L0 (x:Ta108):=q265_L0 x.1.2.1 x.1.2.2.1 x.2.1
noncomputable def a265:Nat→Option LoopAnn:=fun c=>bif Nat.beq c 0 then some (.fix h265_L0 e265_L0 s265_L0) else none
noncomputable def g265 (x0:Ta64):Option ((Int×Unit)×Unit) :=
bif (!(f294 x0)) then some (((-1:Int),()),()) else (fixO s265_L0 (((),((0:Int),((0:Int),()))),(x0,()))).bind fun d5=>match d5 with | .inl y3=>(g314 y3.2.1).bind fun y4=>some (((wI ((wI (y3.1.2.1 + (wI ((2:Int) * y4.1.1)))) + y3.2.1.2.2.2.2.2.1)),()),()) | .inr e=>nomatch e
noncomputable def c265:Ctr:={ ins:=[.v Ty144],out:=[(.int .i64)],F:=fun x=>g265 x.1 }
noncomputable def l265:List (Nat×Code):=loopsIn (Tryz.f265.body.getD .skip) 0
theorem w265_L0:LW t265 a265 l265 0 0 h265_L0 e265_L0 s265_L0:=fun x=>by kernel_rfl
theorem o265:Holds Tryz.prog 265 c265:=fh t265 a265 Tryz.func265 [(0,lg l265 0)] ⟨fun x d h=>(w265_L0 x).trans h,trivial⟩ (tc o294 (tc o275 (tc o314 tn)))
noncomputable def t220:Tbl:=[(97,[],c97),(119,[],c119),(294,[],c294),(265,[],c265)]
noncomputable def g220 (x0:Ta176):Option ((Bool×Unit)×Unit) :=
bif (!(f97 x0.1 (64:Int) (2048:Int))) then some ((false,()),()) else bif ((Int.tmod x0.1 (4:Int)) != (0:Int)) then some ((false,()),()) else bif (!(f119 x0.2.1)) then some ((false,()),()) else bif (!(f97 x0.2.2.1 (1:Int) (8:Int))) then some ((false,()),()) else bif (!(f294 x0.2.2.2.1)) then some ((false,()),()) else bif (f97 x0.2.2.2.2.1 (1:Int) (5000:Int)) then bif (f97 x0.2.2.2.2.2.1 (1:Int) (5000:Int)) then bif (f97 x0.2.2.2.2.2.2.1 (1:Int) (5000:Int)) then (g265 x0.2.2.2.1).bind fun y1=>some (((decide (x0.2.2.2.2.2.1 ≥ y1.1.1)),()),()) else some ((false,()),()) else some ((false,()),()) else some ((false,()),())
noncomputable def c220:Ctr:={ ins:=[.v Ty202],out:=[.bool],F:=fun x=>g220 x.1 }
theorem o220:Holds Tryz.prog 220 c220:=f0 t220 Tryz.func220 (tc o97 (tc o119 (tc o294 (tc o265 tn))))
noncomputable def t355:Tbl:=[(97,[],c97)]
abbrev h355_L0:Shape:={ slots:=[(0,.v .str),(3,.v (.int .i64))],boxes:=[] }
abbrev e355_L0:List (XT×Shape):=[(.ret,{ slots:=[(2,.v .bool)],boxes:=[] }),(.exit 0,{ slots:=[(0,.v .str)],boxes:=[] })]
noncomputable def q355_L0 (t0:ByteArray) (t3:Int):Option (((ByteArray×(Int×Unit))×Unit)⊕(((Bool×Unit)×Unit)⊕(((ByteArray×Unit)×Unit)⊕Empty))) :=
bif (decide (t3 < (t0.size:Int))) then bif (decide (t3 < (13:Int))) then bif (decide (0≤t3)&&decide (t3 < t0.size)) then bif (!(f97 (wI ((bt t0 t3))) (97:Int) (122:Int))) then some (.inr (.inl ((false,()),()))) else some (.inl ((t0,((wI (t3 + (1:Int))),())),())) else none else some (.inr (.inr (.inl ((t0,()),())))) else some (.inr (.inr (.inl ((t0,()),()))))
noncomputable def s355_L0 (x:((ByteArray×(Int×Unit))×Unit)):=q355_L0 x.1.1 x.1.2.1
noncomputable def a355:Nat→Option LoopAnn:=fun c=>bif Nat.beq c 0 then some (.fix h355_L0 e355_L0 s355_L0) else none
noncomputable def g355 (x0:ByteArray):Option ((Bool×Unit)×Unit) :=
(fixO s355_L0 ((x0,((0:Int),())),())).bind fun d2=>match d2 with | .inl y1=>some ((y1.1.1,()),()) | .inr (.inl y1)=>some (((f97 (y1.1.1.size:Int) (1:Int) (12:Int)),()),()) | .inr (.inr e)=>nomatch e
noncomputable def c355:Ctr:={ ins:=[.v .str],out:=[.bool],F:=fun x=>g355 x.1 }
noncomputable def l355:List (Nat×Code):=loopsIn (Tryz.f355.body.getD .skip) 0
theorem w355_L0:LW t355 a355 l355 0 0 h355_L0 e355_L0 s355_L0:=fun x=>by kernel_rfl
theorem o355:Holds Tryz.prog 355 c355:=fh t355 a355 Tryz.func355 [(0,lg l355 0)] ⟨fun x d h=>(w355_L0 x).trans h,trivial⟩ (tc o97 tn)
noncomputable def t342:Tbl:=[(355,[],c355)]
noncomputable def g342 (x0:ByteArray):Option ((Bool×Unit)×Unit) :=
bif (decide ((x0.size:Int)≤(8:Int))) then (g355 x0).bind fun y1=>some ((y1.1.1,()),()) else some ((false,()),())
noncomputable def c342:Ctr:={ ins:=[.v .str],out:=[.bool],F:=fun x=>g342 x.1 }
theorem o342:Holds Tryz.prog 342 c342:=f0 t342 Tryz.func342 (tc o355 tn)
noncomputable def t335:Tbl:=[(97,[],c97)]
noncomputable def g335 (x0:(Int×(Int×Unit))):Option ((Bool×Unit)×Unit) :=
bif (x0.1 == (1:Int)) then some (((f97 x0.2.1 (0:Int) (100:Int)),()),()) else bif (x0.1 == (0:Int)) then some (((x0.2.1 == (0:Int)),()),()) else bif (x0.1 == (2:Int)) then some (((x0.2.1 == (0:Int)),()),()) else some ((false,()),())
noncomputable def f335 (x0:(Int×(Int×Unit))):Bool :=
bif (x0.1 == (1:Int)) then (f97 x0.2.1 (0:Int) (100:Int)) else bif (x0.1 == (0:Int)) then (x0.2.1 == (0:Int)) else bif (x0.1 == (2:Int)) then (x0.2.1 == (0:Int)) else false
theorem n335 (x0:(Int×(Int×Unit))):g335 x0 = some ((f335 x0,()),()):=by simp only [g335,f335,pull1]
noncomputable def c335:Ctr:={ ins:=[.v Ty61],out:=[.bool],F:=fun x=>some ((f335 x.1,()),()) }
theorem o335:Holds Tryz.prog 335 c335:=f0T t335 (fun x=>g335 x.1) Tryz.func335 (tc o97 tn) (fun x=>n335 x.1)
noncomputable def t308:Tbl:=[(97,[],c97)]
noncomputable def g308 (x0:(Int×(Int×(Int×Unit)))):Option ((Bool×Unit)×Unit) :=
bif (f97 x0.1 (0:Int) (2048:Int)) then bif (f97 x0.2.1 (4:Int) (2048:Int)) then bif ((Int.tmod x0.1 (4:Int)) == (0:Int)) then bif ((Int.tmod x0.2.1 (4:Int)) == (0:Int)) then bif (decide ((wI (x0.1 + x0.2.1))≤(2048:Int))) then some (((f97 x0.2.2.1 (1:Int) (7:Int)),()),()) else some ((false,()),()) else some ((false,()),()) else some ((false,()),()) else some ((false,()),()) else some ((false,()),())
noncomputable def f308 (x0:(Int×(Int×(Int×Unit)))):Bool :=
bif (f97 x0.1 (0:Int) (2048:Int)) then bif (f97 x0.2.1 (4:Int) (2048:Int)) then bif ((Int.tmod x0.1 (4:Int)) == (0:Int)) then bif ((Int.tmod x0.2.1 (4:Int)) == (0:Int)) then bif (decide ((wI (x0.1 + x0.2.1))≤(2048:Int))) then (f97 x0.2.2.1 (1:Int) (7:Int)) else false else false else false else false else false
theorem n308 (x0:(Int×(Int×(Int×Unit)))):g308 x0 = some ((f308 x0,()),()):=by simp only [g308,f308,pull1]
noncomputable def c308:Ctr:={ ins:=[.v Ty93],out:=[.bool],F:=fun x=>some ((f308 x.1,()),()) }
theorem o308:Holds Tryz.prog 308 c308:=f0T t308 (fun x=>g308 x.1) Tryz.func308 (tc o97 tn) (fun x=>n308 x.1)
noncomputable def t343:Tbl:=[]
noncomputable def g343 (x0:(Int×(Int×(Int×Unit)))) (x1:Int):Option ((Bool×Unit)×Unit) :=
bif (decide (x1 ≥ x0.1)) then some (((decide (x1 < (wI (x0.1 + x0.2.1)))),()),()) else some ((false,()),())
noncomputable def f343 (x0:(Int×(Int×(Int×Unit)))) (x1:Int):Bool :=
bif (decide (x1 ≥ x0.1)) then (decide (x1 < (wI (x0.1 + x0.2.1)))) else false
theorem n343 (x0:(Int×(Int×(Int×Unit)))) (x1:Int):g343 x0 x1 = some ((f343 x0 x1,()),()):=by simp only [g343,f343,pull1]
noncomputable def c343:Ctr:={ ins:=[.v Ty93,.v (.int .i64)],out:=[.bool],F:=fun x=>some ((f343 x.1 x.2.1,()),()) }
theorem o343:Holds Tryz.prog 343 c343:=f0T t343 (fun x=>g343 x.1 x.2.1) Tryz.func343 tn (fun x=>n343 x.1 x.2.1)
noncomputable def t295:Tbl:=[(342,[],c342),(335,[],c335),(97,[],c97),(308,[],c308),(343,[],c343)]
abbrev h295_L0:Shape:={ slots:=[(1,.v (.int .i64)),(2,.bx 2 0),(5,.v .bool),(6,.v (.int .i64))],boxes:=[(2,.typ Ty156)] }
abbrev e295_L0:List (XT×Shape):=[(.ret,{ slots:=[(4,.v .bool)],boxes:=[] }),(.exit 0,{ slots:=[(2,.bx 2 0),(5,.v .bool)],boxes:=[(2,.typ Ty156)] })]
noncomputable def q295_L0 (t1:Int) (t5:Bool) (t6:Int) (b2:Ta98):Option (((Int×(Unit×(Bool×(Int×Unit))))×Ta104)⊕(((Bool×Unit)×Unit)⊕(((Unit×(Bool×Unit))×Ta104)⊕Empty))) :=
bif (decide (t6 < (b2.2.2.2.1.len:Int))) then bif (decide (0≤t6)&&decide (t6 < (b2.2.2.2.1.len:Int))) then bif (!(f308 (L.get b2.2.2.2.1 t6.toNat))) then some (.inr (.inl ((false,()),()))) else bif (decide ((wI ((L.get b2.2.2.2.1 t6.toNat).1 + (L.get b2.2.2.2.1 t6.toNat).2.1)) > t1)) then some (.inr (.inl ((false,()),()))) else bif (f343 (L.get b2.2.2.2.1 t6.toNat) b2.2.1) then bif ((wI (Int.tdiv (L.get b2.2.2.2.1 t6.toNat).2.2.1 (4:Int))) == (1:Int)) then some (.inl ((t1,((),(true,((wI (t6 + (1:Int))),())))),(b2,()))) else some (.inl ((t1,((),(t5,((wI (t6 + (1:Int))),())))),(b2,()))) else some (.inl ((t1,((),(t5,((wI (t6 + (1:Int))),())))),(b2,()))) else none else some (.inr (.inr (.inl (((),(t5,())),(b2,())))))
noncomputable def s295_L0 (x:((Int×(Unit×(Bool×(Int×Unit))))×Ta104)):=q295_L0 x.1.1 x.1.2.2.1 x.1.2.2.2.1 x.2.1
noncomputable def a295:Nat→Option LoopAnn:=fun c=>bif Nat.beq c 0 then some (.fix h295_L0 e295_L0 s295_L0) else none
noncomputable def g295 (x0:Ta98) (x1:Int):Option ((Bool×Unit)×Unit) :=
(g342 x0.1).bind fun y1=>bif (!y1.1.1) then some ((false,()),()) else bif (!(f335 x0.2.2.1)) then some ((false,()),()) else bif (!(f97 (x0.2.2.2.1.len:Int) (1:Int) (4:Int))) then some ((false,()),()) else (fixO s295_L0 ((x1,((),(false,((0:Int),())))),(x0,()))).bind fun d3=>match d3 with | .inl y2=>some ((y2.1.1,()),()) | .inr (.inl y2)=>bif y2.1.2.1 then some ((((Int.tmod y2.2.1.2.1 (4:Int)) == (0:Int)),()),()) else some ((false,()),()) | .inr (.inr e)=>nomatch e
noncomputable def c295:Ctr:={ ins:=[.v Ty156,.v (.int .i64)],out:=[.bool],F:=fun x=>g295 x.1 x.2.1 }
noncomputable def l295:List (Nat×Code):=loopsIn (Tryz.f295.body.getD .skip) 0
theorem w295_L0:LW t295 a295 l295 0 0 h295_L0 e295_L0 s295_L0:=fun x=>by kernel_rfl
theorem o295:Holds Tryz.prog 295 c295:=fh t295 a295 Tryz.func295 [(0,lg l295 0)] ⟨fun x d h=>(w295_L0 x).trans h,trivial⟩ (tc o342 (tc o335 (tc o97 (tc o308 (tc o343 tn)))))
noncomputable def t296r:Tbl:=[]
abbrev h296r_L0:Shape:={ slots:=[(0,.v Ty159),(3,.ms 5),(4,.v (.int .i64))],boxes:=[(5,.row Ty93)] }
abbrev e296r_L0:List (XT×Shape):=[(.exit 0,{ slots:=[(3,.ms 5)],boxes:=[(5,.row Ty93)] })]
noncomputable def q296r_L0 (t0:Ta102) (t4:Int) (r5:Ta13):Option ((Ta121×Ta36)⊕(Ta67⊕Empty)) :=
bif (decide (t4 < (t0.len:Int))) then bif (decide (0≤t4)&&decide (t4 < (t0.len:Int))) then bif (decide (r5.len + (L.get t0 t4.toNat).2.2.2.1.len≤most)) then some (.inl ((t0,((),((wI (t4 + (1:Int))),()))),((L.app r5 (L.get t0 t4.toNat).2.2.2.1),()))) else none else none else some (.inr (.inl (((),()),(r5,()))))
noncomputable def s296r_L0 (x:(Ta121×Ta36)):=q296r_L0 x.1.1 x.1.2.2.1 x.2.1
noncomputable def a296r:Nat→Option LoopAnn:=fun c=>bif Nat.beq c 0 then some (.fix h296r_L0 e296r_L0 s296r_L0) else none
noncomputable def g296r (x0:Ta102):Option Ta54 :=
(fixO s296r_L0 ((x0,((),((0:Int),()))),((L.of (Ty.zero Ty93) []),()))).bind fun d2=>match d2 with | .inl y1=>some ((y1.2.1,()),()) | .inr e=>nomatch e
noncomputable def c296r:Ctr:={ ins:=[.v Ty159],out:=[Ty99],F:=fun x=>g296r x.1,fr:=1 }
noncomputable def l296r:List (Nat×Code):=loopsIn (Tryz.f296.body.getD .skip) 0
theorem w296r_L0:LW t296r a296r l296r 0 0 h296r_L0 e296r_L0 s296r_L0:=fun x=>by kernel_rfl
theorem o296r:Holds Tryz.prog 296 c296r:=fh t296r a296r Tryz.func296 [(0,lg l296r 0)] ⟨fun x d h=>(w296r_L0 x).trans h,trivial⟩ tn
noncomputable def t221:Tbl:=[(97,[],c97),(295,[],c295),(296,[],c296r)]
abbrev h221_L2:Shape:={ slots:=[(1,.bx 1 0),(3,.v (.int .i64)),(4,.v (.int .i64))],boxes:=[(1,.typ Ty202)] }
abbrev e221_L2:List (XT×Shape):=[(.ret,{ slots:=[(2,.v .bool)],boxes:=[] }),(.exit 2,{ slots:=[(1,.bx 1 0),(3,.v (.int .i64))],boxes:=[(1,.typ Ty202)] })]
noncomputable def q221_L2 (t3:Int) (t4:Int) (b1:Ta176):Option (Ta183⊕(((Bool×Unit)×Unit)⊕(Ta181⊕Empty))) :=
bif (decide (t4 < t3)) then bif (decide (0≤t4)&&decide (t4 < (b1.2.2.2.2.2.2.2.1.len:Int))) then bif (decide (0≤t3)&&decide (t3 < (b1.2.2.2.2.2.2.2.1.len:Int))) then bif (strEq (L.get b1.2.2.2.2.2.2.2.1 t4.toNat).1 (L.get b1.2.2.2.2.2.2.2.1 t3.toNat).1) then some (.inr (.inl ((false,()),()))) else some (.inl (((),(t3,((wI (t4 + (1:Int))),()))),(b1,()))) else none else none else some (.inr (.inr (.inl (((),(t3,())),(b1,())))))
noncomputable def s221_L2 (x:Ta183):=q221_L2 x.1.2.1 x.1.2.2.1 x.2.1
abbrev h221_L0:Shape:={ slots:=[(1,.bx 1 0),(3,.v (.int .i64))],boxes:=[(1,.typ Ty202)] }
abbrev e221_L0:List (XT×Shape):=[(.ret,{ slots:=[(2,.v .bool)],boxes:=[] }),(.exit 0,{ slots:=[(1,.bx 1 0)],boxes:=[(1,.typ Ty202)] })]
noncomputable def q221_L0 (t3:Int) (b1:Ta176):Option (Ta181⊕(((Bool×Unit)×Unit)⊕(Ta179⊕Empty))) :=
bif (decide (t3 < (b1.2.2.2.2.2.2.2.1.len:Int))) then bif (decide (0≤t3)&&decide (t3 < (b1.2.2.2.2.2.2.2.1.len:Int))) then (g295 (L.get b1.2.2.2.2.2.2.2.1 t3.toNat) b1.1).bind fun y1=>bif (!y1.1.1) then some (.inr (.inl ((false,()),()))) else ((fixO s221_L2 (((),(t3,((0:Int),()))),(b1,()))).bind fun d3=>match d3 with | .inl y2=>some (.inr (.inl y2)) | .inr (.inl y2)=>some (.inl (((),((wI (y2.1.2.1 + (1:Int))),())),y2.2)) | .inr (.inr e)=>nomatch e) else none else some (.inr (.inr (.inl (((),()),(b1,())))))
noncomputable def s221_L0 (x:Ta181):=q221_L0 x.1.2.1 x.2.1
abbrev h221_L6:Shape:={ slots:=[(5,.ms 1003136),(6,.v (.int .i64)),(7,.v (.int .i64))],boxes:=[(1003136,.row Ty93)] }
abbrev e221_L6:List (XT×Shape):=[(.ret,{ slots:=[(2,.v .bool)],boxes:=[] }),(.exit 6,{ slots:=[(5,.ms 1003136),(6,.v (.int .i64))],boxes:=[(1003136,.row Ty93)] })]
noncomputable def q221_L6 (t6:Int) (t7:Int) (r1003136:Ta13):Option (Ta89⊕(((Bool×Unit)×Unit)⊕(Ta79⊕Empty))) :=
bif (decide (t7 < t6)) then bif (decide (0≤t7)&&decide (t7 < (r1003136.len:Int))) then bif (decide (0≤t6)&&decide (t6 < (r1003136.len:Int))) then bif (decide (0≤t6)&&decide (t6 < (r1003136.len:Int))) then bif (decide ((L.get r1003136 t7.toNat).1 < (wI ((L.get r1003136 t6.toNat).1 + (L.get r1003136 t6.toNat).2.1)))) then bif (decide (0≤t6)&&decide (t6 < (r1003136.len:Int))) then bif (decide (0≤t7)&&decide (t7 < (r1003136.len:Int))) then bif (decide (0≤t7)&&decide (t7 < (r1003136.len:Int))) then bif (decide ((L.get r1003136 t6.toNat).1 < (wI ((L.get r1003136 t7.toNat).1 + (L.get r1003136 t7.toNat).2.1)))) then some (.inr (.inl ((false,()),()))) else some (.inl (((),(t6,((wI (t7 + (1:Int))),()))),(r1003136,()))) else none else none else none else some (.inl (((),(t6,((wI (t7 + (1:Int))),()))),(r1003136,()))) else none else none else none else some (.inr (.inr (.inl (((),(t6,())),(r1003136,())))))
noncomputable def s221_L6 (x:Ta89):=q221_L6 x.1.2.1 x.1.2.2.1 x.2.1
abbrev h221_L4:Shape:={ slots:=[(5,.ms 1003136),(6,.v (.int .i64))],boxes:=[(1003136,.row Ty93)] }
abbrev e221_L4:List (XT×Shape):=[(.ret,{ slots:=[(2,.v .bool)],boxes:=[] }),(.exit 4,{ slots:=[],boxes:=[] })]
noncomputable def q221_L4 (t6:Int) (r1003136:Ta13):Option (Ta79⊕(((Bool×Unit)×Unit)⊕((Unit×Unit)⊕Empty))) :=
bif (decide (t6 < (r1003136.len:Int))) then ((fixO s221_L6 (((),(t6,((0:Int),()))),(r1003136,()))).bind fun d7=>match d7 with | .inl y6=>some (.inr (.inl y6)) | .inr (.inl y6)=>some (.inl (((),((wI (y6.1.2.1 + (1:Int))),())),y6.2)) | .inr (.inr e)=>nomatch e) else some (.inr (.inr (.inl ((),()))))
noncomputable def s221_L4 (x:Ta79):=q221_L4 x.1.2.1 x.2.1
noncomputable def a221:Nat→Option LoopAnn:=fun c=>bif Nat.beq c 2 then some (.fix h221_L2 e221_L2 s221_L2) else bif Nat.beq c 0 then some (.fix h221_L0 e221_L0 s221_L0) else bif Nat.beq c 6 then some (.fix h221_L6 e221_L6 s221_L6) else bif Nat.beq c 4 then some (.fix h221_L4 e221_L4 s221_L4) else none
noncomputable def g221 (x0:Ta176):Option ((Bool×Unit)×Unit) :=
bif (!(f97 (x0.2.2.2.2.2.2.2.1.len:Int) (1:Int) (6:Int))) then some ((false,()),()) else (fixO s221_L0 (((),((0:Int),())),(x0,()))).bind fun d10=>match d10 with | .inl y4=>some ((y4.1.1,()),()) | .inr (.inl y4)=>(g296r y4.2.1.2.2.2.2.2.2.2.1).bind fun y5=>((fixO s221_L4 (((),((0:Int),())),y5.1)).bind fun d9=>match d9 with | .inl y8=>some ((y8.1.1,()),()) | .inr (.inl y8)=>some ((true,()),()) | .inr (.inr e)=>nomatch e) | .inr (.inr e)=>nomatch e
noncomputable def c221:Ctr:={ ins:=[.v Ty202],out:=[.bool],F:=fun x=>g221 x.1 }
noncomputable def l221:List (Nat×Code):=loopsIn (Tryz.f221.body.getD .skip) 0
theorem w221_L2:LW t221 a221 l221 1 2 h221_L2 e221_L2 s221_L2:=fun x=>by kernel_rfl
theorem w221_L0:LW t221 a221 l221 0 0 h221_L0 e221_L0 s221_L0:=fun x=>by kernel_rfl
theorem w221_L6:LW t221 a221 l221 3 6 h221_L6 e221_L6 s221_L6:=fun x=>by kernel_rfl
theorem w221_L4:LW t221 a221 l221 2 4 h221_L4 e221_L4 s221_L4:=fun x=>by kernel_rfl
theorem o221:Holds Tryz.prog 221 c221:=fh t221 a221 Tryz.func221 [(0,lg l221 0),(2,lg l221 1),(4,lg l221 2),(6,lg l221 3)] ⟨fun x d h=>(w221_L0 x).trans h,fun x d h=>(w221_L2 x).trans h,fun x d h=>(w221_L4 x).trans h,fun x d h=>(w221_L6 x).trans h,trivial⟩ (tc o97 (tc o295 (tc o296r tn)))
noncomputable def t297:Tbl:=[(97,[],c97)]
noncomputable def g297 (x0:Ta17):Option ((Bool×Unit)×Unit) :=
bif (!(f97 x0.2.1 (0:Int) (5:Int))) then some ((false,()),()) else bif (!(f97 x0.2.2.1 (0:Int) (5:Int))) then some ((false,()),()) else bif (x0.2.1 == x0.2.2.1) then some ((false,()),()) else bif (x0.1 == (0:Int)) then bif (x0.2.2.2.1 == (0:Int)) then some ((true,()),()) else bif (x0.1 == (1:Int)) then some (((f97 x0.2.2.2.1 (1:Int) (8:Int)),()),()) else some ((false,()),()) else bif (x0.1 == (1:Int)) then some (((f97 x0.2.2.2.1 (1:Int) (8:Int)),()),()) else some ((false,()),())
noncomputable def f297 (x0:Ta17):Bool :=
bif (!(f97 x0.2.1 (0:Int) (5:Int))) then false else bif (!(f97 x0.2.2.1 (0:Int) (5:Int))) then false else bif (x0.2.1 == x0.2.2.1) then false else bif (x0.1 == (0:Int)) then bif (x0.2.2.2.1 == (0:Int)) then true else bif (x0.1 == (1:Int)) then (f97 x0.2.2.2.1 (1:Int) (8:Int)) else false else bif (x0.1 == (1:Int)) then (f97 x0.2.2.2.1 (1:Int) (8:Int)) else false
theorem n297 (x0:Ta17):g297 x0 = some ((f297 x0,()),()):=by simp only [g297,f297,pull1]
noncomputable def c297:Ctr:={ ins:=[.v Ty116],out:=[.bool],F:=fun x=>some ((f297 x.1,()),()) }
theorem o297:Holds Tryz.prog 297 c297:=f0T t297 (fun x=>g297 x.1) Tryz.func297 (tc o97 tn) (fun x=>n297 x.1)
noncomputable def t266:Tbl:=[(294,[],c294),(119,[],c119),(297,[],c297)]
abbrev h266_L0:Shape:={ slots:=[(2,.v Ty118),(3,.bx 3 0),(7,.v (.int .i64)),(8,.v (.int .i64))],boxes:=[(3,.typ Ty144)] }
abbrev e266_L0:List (XT×Shape):=[(.ret,{ slots:=[(6,.v (.int .i64))],boxes:=[] }),(.exit 0,{ slots:=[(7,.v (.int .i64))],boxes:=[] })]
noncomputable def q266_L0 (t2:Ta32) (t7:Int) (t8:Int) (b3:Ta64):Option (((Ta32×(Unit×(Int×(Int×Unit))))×Ta78)⊕(((Int×Unit)×Unit)⊕(((Int×Unit)×Unit)⊕Empty))) :=
bif (decide (t8 < (t2.len:Int))) then bif (decide (0≤t8)&&decide (t8 < (t2.len:Int))) then bif (!(f297 (L.get t2 t8.toNat))) then some (.inr (.inl (((-1:Int),()),()))) else bif (decide (0≤t8)&&decide (t8 < (t2.len:Int))) then bif ((L.get t2 t8.toNat).1 == (0:Int)) then some (.inl ((t2,((),((wI (t7 + b3.1)),((wI (t8 + (1:Int))),())))),(b3,()))) else bif (decide (0≤t8)&&decide (t8 < (t2.len:Int))) then some (.inl ((t2,((),((wI (t7 + (wI (b3.1 * (L.get t2 t8.toNat).2.2.2.1)))),((wI (t8 + (1:Int))),())))),(b3,()))) else none else none else none else some (.inr (.inr (.inl ((t7,()),()))))
noncomputable def s266_L0 (x:((Ta32×(Unit×(Int×(Int×Unit))))×Ta78)):=q266_L0 x.1.1 x.1.2.2.1 x.1.2.2.2.1 x.2.1
noncomputable def a266:Nat→Option LoopAnn:=fun c=>bif Nat.beq c 0 then some (.fix h266_L0 e266_L0 s266_L0) else none
noncomputable def g266 (x0:Ta64) (x1:(Int×(Int×(Int×Unit)))) (x2:Ta32):Option ((Int×Unit)×Unit) :=
bif (!(f294 x0)) then some (((-1:Int),()),()) else bif (!(f119 x1)) then some (((-1:Int),()),()) else bif (decide ((x2.len:Int) > (8:Int))) then some (((-1:Int),()),()) else (fixO s266_L0 ((x2,((),((wI ((wI ((16:Int) * x0.1)) + (wI ((wI (x1.1 * x1.2.1)) * x0.2.2.2.2.2.2.1)))),((0:Int),())))),(x0,()))).bind fun d2=>match d2 with | .inl y1=>some ((y1.1.1,()),()) | .inr (.inl y1)=>some ((y1.1.1,()),()) | .inr (.inr e)=>nomatch e
noncomputable def c266:Ctr:={ ins:=[.v Ty144,.v Ty93,.v Ty118],out:=[(.int .i64)],F:=fun x=>g266 x.1 x.2.1 x.2.2.1 }
noncomputable def l266:List (Nat×Code):=loopsIn (Tryz.f266.body.getD .skip) 0
theorem w266_L0:LW t266 a266 l266 0 0 h266_L0 e266_L0 s266_L0:=fun x=>by kernel_rfl
theorem o266:Holds Tryz.prog 266 c266:=fh t266 a266 Tryz.func266 [(0,lg l266 0)] ⟨fun x d h=>(w266_L0 x).trans h,trivial⟩ (tc o294 (tc o119 (tc o297 tn)))
noncomputable def t222:Tbl:=[(97,[],c97),(297,[],c297),(266,[],c266)]
abbrev h222_L0:Shape:={ slots:=[(1,.bx 1 0),(3,.v (.int .i64))],boxes:=[(1,.typ Ty202)] }
abbrev e222_L0:List (XT×Shape):=[(.ret,{ slots:=[(2,.v .bool)],boxes:=[] }),(.exit 0,{ slots:=[(1,.bx 1 0)],boxes:=[(1,.typ Ty202)] })]
noncomputable def q222_L0 (t3:Int) (b1:Ta176):Option (Ta181⊕(((Bool×Unit)×Unit)⊕(Ta179⊕Empty))) :=
bif (decide (t3 < (b1.2.2.2.2.2.2.2.2.1.len:Int))) then bif (decide (0≤t3)&&decide (t3 < (b1.2.2.2.2.2.2.2.2.1.len:Int))) then bif (!(f97 (L.get b1.2.2.2.2.2.2.2.2.1 t3.toNat) (0:Int) (wI ((b1.2.2.2.2.2.2.2.1.len:Int) - (1:Int))))) then some (.inr (.inl ((false,()),()))) else some (.inl (((),((wI (t3 + (1:Int))),())),(b1,()))) else none else some (.inr (.inr (.inl (((),()),(b1,())))))
noncomputable def s222_L0 (x:Ta181):=q222_L0 x.1.2.1 x.2.1
abbrev h222_L2:Shape:={ slots:=[(1,.bx 1 0),(4,.v (.int .i64))],boxes:=[(1,.typ Ty202)] }
abbrev e222_L2:List (XT×Shape):=[(.ret,{ slots:=[(2,.v .bool)],boxes:=[] }),(.exit 2,{ slots:=[(1,.bx 1 0)],boxes:=[(1,.typ Ty202)] })]
noncomputable def q222_L2 (t4:Int) (b1:Ta176):Option (Ta181⊕(((Bool×Unit)×Unit)⊕(Ta179⊕Empty))) :=
bif (decide (t4 < (b1.2.2.2.2.2.2.2.2.2.1.len:Int))) then bif (decide (0≤t4)&&decide (t4 < (b1.2.2.2.2.2.2.2.2.2.1.len:Int))) then bif (!(f297 (L.get b1.2.2.2.2.2.2.2.2.2.1 t4.toNat))) then some (.inr (.inl ((false,()),()))) else bif (decide (0≤t4)&&decide (t4 < (b1.2.2.2.2.2.2.2.2.2.1.len:Int))) then bif (decide ((L.get b1.2.2.2.2.2.2.2.2.2.1 t4.toNat).2.1 ≥ (b1.2.2.2.2.2.2.2.1.len:Int))) then some (.inr (.inl ((false,()),()))) else bif (decide (0≤t4)&&decide (t4 < (b1.2.2.2.2.2.2.2.2.2.1.len:Int))) then bif (decide ((L.get b1.2.2.2.2.2.2.2.2.2.1 t4.toNat).2.2.1 ≥ (b1.2.2.2.2.2.2.2.1.len:Int))) then some (.inr (.inl ((false,()),()))) else some (.inl (((),((wI (t4 + (1:Int))),())),(b1,()))) else none else none else none else some (.inr (.inr (.inl (((),()),(b1,())))))
noncomputable def s222_L2 (x:Ta181):=q222_L2 x.1.2.1 x.2.1
noncomputable def a222:Nat→Option LoopAnn:=fun c=>bif Nat.beq c 0 then some (.fix h222_L0 e222_L0 s222_L0) else bif Nat.beq c 2 then some (.fix h222_L2 e222_L2 s222_L2) else none
noncomputable def g222 (x0:Ta176):Option ((Bool×Unit)×Unit) :=
bif (decide ((x0.2.2.2.2.2.2.2.2.1.len:Int) > (8:Int))) then some ((false,()),()) else bif (decide ((x0.2.2.2.2.2.2.2.2.2.1.len:Int) > (8:Int))) then some ((false,()),()) else (fixO s222_L0 (((),((0:Int),())),(x0,()))).bind fun d5=>match d5 with | .inl y1=>some ((y1.1.1,()),()) | .inr (.inl y1)=>((fixO s222_L2 (((),((0:Int),())),y1.2)).bind fun d4=>match d4 with | .inl y2=>some ((y2.1.1,()),()) | .inr (.inl y2)=>(g266 y2.2.1.2.2.2.1 y2.2.1.2.1 y2.2.1.2.2.2.2.2.2.2.2.2.1).bind fun y3=>some (((decide (y2.2.1.2.2.2.2.1 ≥ y3.1.1)),()),()) | .inr (.inr e)=>nomatch e) | .inr (.inr e)=>nomatch e
noncomputable def c222:Ctr:={ ins:=[.v Ty202],out:=[.bool],F:=fun x=>g222 x.1 }
noncomputable def l222:List (Nat×Code):=loopsIn (Tryz.f222.body.getD .skip) 0
theorem w222_L0:LW t222 a222 l222 0 0 h222_L0 e222_L0 s222_L0:=fun x=>by kernel_rfl
theorem w222_L2:LW t222 a222 l222 1 2 h222_L2 e222_L2 s222_L2:=fun x=>by kernel_rfl
theorem o222:Holds Tryz.prog 222 c222:=fh t222 a222 Tryz.func222 [(0,lg l222 0),(2,lg l222 1)] ⟨fun x d h=>(w222_L0 x).trans h,fun x d h=>(w222_L2 x).trans h,trivial⟩ (tc o97 (tc o297 (tc o266 tn)))
noncomputable def t223:Tbl:=[(97,[],c97)]
abbrev h223_L0:Shape:={ slots:=[(1,.bx 1 0),(3,.v (.int .i64)),(4,.v (.int .i64))],boxes:=[(1,.typ Ty202)] }
abbrev e223_L0:List (XT×Shape):=[(.ret,{ slots:=[(2,.v .bool)],boxes:=[] }),(.exit 0,{ slots:=[],boxes:=[] })]
noncomputable def q223_L0 (t3:Int) (t4:Int) (b1:Ta176):Option (Ta183⊕(((Bool×Unit)×Unit)⊕((Unit×Unit)⊕Empty))) :=
bif (decide (t4 < (b1.2.2.2.2.2.2.2.2.2.2.1.len:Int))) then bif (decide (0≤t4)&&decide (t4 < (b1.2.2.2.2.2.2.2.2.2.2.1.len:Int))) then bif (!(f97 (L.get b1.2.2.2.2.2.2.2.2.2.2.1 t4.toNat).1 (0:Int) (wI ((b1.2.2.2.2.2.2.2.1.len:Int) - (1:Int))))) then some (.inr (.inl ((false,()),()))) else bif (!(f97 (L.get b1.2.2.2.2.2.2.2.2.2.2.1 t4.toNat).2.1 t3 (5000:Int))) then some (.inr (.inl ((false,()),()))) else bif (!(f97 (L.get b1.2.2.2.2.2.2.2.2.2.2.1 t4.toNat).2.2.1 (wI ((wI (b1.2.2.2.2.1 + b1.2.2.2.2.2.1)) + (1:Int))) (5000:Int))) then some (.inr (.inl ((false,()),()))) else bif (decide ((wI ((L.get b1.2.2.2.2.2.2.2.2.2.2.1 t4.toNat).2.1 + (L.get b1.2.2.2.2.2.2.2.2.2.2.1 t4.toNat).2.2.1)) > b1.2.2.2.2.2.2.1)) then some (.inr (.inl ((false,()),()))) else some (.inl (((),((wI ((L.get b1.2.2.2.2.2.2.2.2.2.2.1 t4.toNat).2.1 + (L.get b1.2.2.2.2.2.2.2.2.2.2.1 t4.toNat).2.2.1)),((wI (t4 + (1:Int))),()))),(b1,()))) else none else some (.inr (.inr (.inl ((),()))))
noncomputable def s223_L0 (x:Ta183):=q223_L0 x.1.2.1 x.1.2.2.1 x.2.1
noncomputable def a223:Nat→Option LoopAnn:=fun c=>bif Nat.beq c 0 then some (.fix h223_L0 e223_L0 s223_L0) else none
noncomputable def g223 (x0:Ta176):Option ((Bool×Unit)×Unit) :=
bif (!(f97 (x0.2.2.2.2.2.2.2.2.2.2.1.len:Int) (1:Int) (16:Int))) then some ((false,()),()) else (fixO s223_L0 (((),((0:Int),((0:Int),()))),(x0,()))).bind fun d2=>match d2 with | .inl y1=>some ((y1.1.1,()),()) | .inr (.inl y1)=>some ((true,()),()) | .inr (.inr e)=>nomatch e
noncomputable def c223:Ctr:={ ins:=[.v Ty202],out:=[.bool],F:=fun x=>g223 x.1 }
noncomputable def l223:List (Nat×Code):=loopsIn (Tryz.f223.body.getD .skip) 0
theorem w223_L0:LW t223 a223 l223 0 0 h223_L0 e223_L0 s223_L0:=fun x=>by kernel_rfl
theorem o223:Holds Tryz.prog 223 c223:=fh t223 a223 Tryz.func223 [(0,lg l223 0)] ⟨fun x d h=>(w223_L0 x).trans h,trivial⟩ (tc o97 tn)
noncomputable def t127:Tbl:=[(220,[],c220),(221,[],c221),(222,[],c222),(223,[],c223)]
noncomputable def g127 (x0:Ta176):Option ((Bool×Unit)×Unit) :=
(g220 x0).bind fun y1=>bif y1.1.1 then (g221 x0).bind fun y2=>bif y2.1.1 then (g222 x0).bind fun y3=>bif y3.1.1 then (g223 x0).bind fun y4=>some ((y4.1.1,()),()) else some ((false,()),()) else some ((false,()),()) else some ((false,()),())
noncomputable def c127:Ctr:={ ins:=[.v Ty202],out:=[.bool],F:=fun x=>g127 x.1 }
theorem o127:Holds Tryz.prog 127 c127:=f0 t127 Tryz.func127 (tc o220 (tc o221 (tc o222 (tc o223 tn))))
noncomputable def t128:Tbl:=[(97,[],c97)]
abbrev h128_L0:Shape:={ slots:=[(1,.v (.int .i64)),(2,.v (.sl (.sl (.int .u8)))),(3,.bx 3 0),(7,.v (.int .i64))],boxes:=[(3,.typ Ty202)] }
abbrev e128_L0:List (XT×Shape):=[(.ret,{ slots:=[(6,.v .bool)],boxes:=[] }),(.exit 0,{ slots:=[],boxes:=[] })]
noncomputable def q128_L0 (t1:Int) (t2:(L (L Int))) (t7:Int) (b3:Ta176):Option (((Int×Ta28)×Ta178)⊕(((Bool×Unit)×Unit)⊕((Unit×Unit)⊕Empty))) :=
bif (decide (t7 < (t2.len:Int))) then bif (decide (0≤t7)&&decide (t7 < (t2.len:Int))) then bif (decide (0≤t1)&&decide (t1 < (b3.2.2.2.2.2.2.2.1.len:Int))) then bif (decide (0≤t7)&&decide (t7 < ((L.get b3.2.2.2.2.2.2.2.1 t1.toNat).2.2.2.1.len:Int))) then bif (((L.get t2 t7.toNat).len:Int) != (L.get (L.get b3.2.2.2.2.2.2.2.1 t1.toNat).2.2.2.1 t7.toNat).2.1) then some (.inr (.inl ((false,()),()))) else some (.inl ((t1,(t2,((),((wI (t7 + (1:Int))),())))),(b3,()))) else none else none else none else some (.inr (.inr (.inl ((),()))))
noncomputable def s128_L0 (x:((Int×Ta28)×Ta178)):=q128_L0 x.1.1 x.1.2.1 x.1.2.2.2.1 x.2.1
noncomputable def a128:Nat→Option LoopAnn:=fun c=>bif Nat.beq c 0 then some (.fix h128_L0 e128_L0 s128_L0) else none
noncomputable def g128 (x0:Ta176) (x1:Int) (x2:(L (L Int))):Option ((Bool×Unit)×Unit) :=
bif (!(f97 x1 (0:Int) (wI ((x0.2.2.2.2.2.2.2.1.len:Int) - (1:Int))))) then some ((false,()),()) else bif (decide (0≤x1)&&decide (x1 < (x0.2.2.2.2.2.2.2.1.len:Int))) then bif ((x2.len:Int) != ((L.get x0.2.2.2.2.2.2.2.1 x1.toNat).2.2.2.1.len:Int)) then some ((false,()),()) else ((fixO s128_L0 ((x1,(x2,((),((0:Int),())))),(x0,()))).bind fun d2=>match d2 with | .inl y1=>some ((y1.1.1,()),()) | .inr (.inl y1)=>some ((true,()),()) | .inr (.inr e)=>nomatch e) else none
noncomputable def c128:Ctr:={ ins:=[.v Ty202,.v (.int .i64),.v (.sl (.sl (.int .u8)))],out:=[.bool],F:=fun x=>g128 x.1 x.2.1 x.2.2.1 }
noncomputable def l128:List (Nat×Code):=loopsIn (Tryz.f128.body.getD .skip) 0
theorem w128_L0:LW t128 a128 l128 0 0 h128_L0 e128_L0 s128_L0:=fun x=>by kernel_rfl
theorem o128:Holds Tryz.prog 128 c128:=fh t128 a128 Tryz.func128 [(0,lg l128 0)] ⟨fun x d h=>(w128_L0 x).trans h,trivial⟩ (tc o97 tn)
noncomputable def t45:Tbl:=[(127,[],c127),(128,[],c128)]
noncomputable def g45 (x0:Ta176) (x1:Int) (x2:(L (L Int))):Option ((Bool×Unit)×Unit) :=
(g127 x0).bind fun y1=>bif y1.1.1 then (g128 x0 x1 x2).bind fun y2=>some ((y2.1.1,()),()) else some ((false,()),())
noncomputable def c45:Ctr:={ ins:=[.v Ty202,.v (.int .i64),.v (.sl (.sl (.int .u8)))],out:=[.bool],F:=fun x=>g45 x.1 x.2.1 x.2.2.1 }
theorem o45:Holds Tryz.prog 45 c45:=f0 t45 Tryz.func45 (tc o127 (tc o128 tn))
noncomputable def t130r:Tbl:=[]
abbrev h130r_L0:Shape:={ slots:=[(0,.v (.sl (.sl (.int .u8)))),(3,.ms 5),(4,.v (.int .i64))],boxes:=[(5,.row (.sl (.int .u8)))] }
abbrev e130r_L0:List (XT×Shape):=[(.exit 0,{ slots:=[(3,.ms 5)],boxes:=[(5,.row (.sl (.int .u8)))] })]
noncomputable def q130r_L0 (t0:(L (L Int))) (t4:Int) (r5:(L (L Int))):Option (Ta76⊕(Ta33⊕Empty)) :=
bif (decide (t4 < (t0.len:Int))) then bif (decide (0≤t4)&&decide (t4 < (t0.len:Int))) then bif (decide ((L.of (Ty.zero (.int .u8)) []).len + (L.get t0 t4.toNat).len≤most)) then bif (decide (r5.len + (L.of (Ty.zero (.sl (.int .u8))) [(L.app (L.of (Ty.zero (.int .u8)) []) (L.get t0 t4.toNat))]).len≤most)) then some (.inl ((t0,((),((wI (t4 + (1:Int))),()))),((L.app r5 (L.of (Ty.zero (.sl (.int .u8))) [(L.app (L.of (Ty.zero (.int .u8)) []) (L.get t0 t4.toNat))])),()))) else none else none else none else some (.inr (.inl (((),()),(r5,()))))
noncomputable def s130r_L0 (x:Ta76):=q130r_L0 x.1.1 x.1.2.2.1 x.2.1
noncomputable def a130r:Nat→Option LoopAnn:=fun c=>bif Nat.beq c 0 then some (.fix h130r_L0 e130r_L0 s130r_L0) else none
noncomputable def g130r (x0:(L (L Int))):Option Ta7 :=
(fixO s130r_L0 ((x0,((),((0:Int),()))),((L.of (Ty.zero (.sl (.int .u8))) []),()))).bind fun d2=>match d2 with | .inl y1=>some ((y1.2.1,()),()) | .inr e=>nomatch e
noncomputable def c130r:Ctr:={ ins:=[.v (.sl (.sl (.int .u8)))],out:=[(.sl (.sl (.int .u8)))],F:=fun x=>g130r x.1,fr:=1 }
noncomputable def l130r:List (Nat×Code):=loopsIn (Tryz.f130.body.getD .skip) 0
theorem w130r_L0:LW t130r a130r l130r 0 0 h130r_L0 e130r_L0 s130r_L0:=fun x=>by kernel_rfl
theorem o130r:Holds Tryz.prog 130 c130r:=fh t130r a130r Tryz.func130 [(0,lg l130r 0)] ⟨fun x d h=>(w130r_L0 x).trans h,trivial⟩ tn
noncomputable def t129r:Tbl:=[(130,[],c130r)]
abbrev h129r_L0:Shape:={ slots:=[(6,.bx 6 0),(7,.bx 7 0),(8,.v (.int .i64))],boxes:=[(6,.cells [.row (.int .u32) 60384,.v (.int .u32),.row (.sl (.int .u8)) 60386]),(7,.cells [.row (.int .u32) 60448,.v (.int .u32),.ms 1001088]),(1001088,.row (.sl (.int .u8)))] }
abbrev e129r_L0:List (XT×Shape):=[(.exit 0,{ slots:=[(6,.bx 6 0),(7,.bx 7 0)],boxes:=[(6,.cells [.ms 60384,.v (.int .u32),.ms 60386]),(7,.cells [.ms 60448,.v (.int .u32),.ms 1001088]),(60384,.row (.int .u32)),(60386,.row (.sl (.int .u8))),(60448,.row (.int .u32)),(1001088,.row (.sl (.int .u8)))] })]
noncomputable def q129r_L0 (t8:Int) (b6_0:(L Int)) (b6_1:Int) (b6_2:(L (L Int))) (b7_0:(L Int)) (b7_1:Int) (r1001088:(L (L Int))):Option ((Ta0×(Ta39×(((L Int)×(Int×(Unit×Unit)))×((L (L Int))×Unit))))⊕(((Unit×(Unit×Unit))×(Ta2×(Ta2×((L Int)×((L (L Int))×Ta18)))))⊕Empty)) :=
bif (decide (t8 < (16:Int))) then bif (decide (b7_0.len + (L.of (Ty.zero (.int .u32)) [(0:Int)]).len≤most)) then some (.inl (((),((),((wI (t8 + (1:Int))),()))),((b6_0,(b6_1,(b6_2,()))),(((L.app b7_0 (L.of (Ty.zero (.int .u32)) [(0:Int)])),(b7_1,((),()))),(r1001088,()))))) else none else some (.inr (.inl (((),((),())),(((),(b6_1,((),()))),(((),(b7_1,((),()))),(b6_0,(b6_2,(b7_0,(r1001088,())))))))))
noncomputable def s129r_L0 (x:(Ta0×(Ta39×(((L Int)×(Int×(Unit×Unit)))×((L (L Int))×Unit))))):=q129r_L0 x.1.2.2.1 x.2.1.1 x.2.1.2.1 x.2.1.2.2.1 x.2.2.1.1 x.2.2.1.2.1 x.2.2.2.1
noncomputable def a129r:Nat→Option LoopAnn:=fun c=>bif Nat.beq c 0 then some (.fix h129r_L0 e129r_L0 s129r_L0) else none
noncomputable def g129r (x0:Ta176) (x1:Int) (x2:(L (L Int))):Option Ta68 :=
bif (decide (0≤x1)&&decide (x1 < (x0.2.2.2.2.2.2.2.1.len:Int))) then (g130r x2).bind fun y1=>((fixO s129r_L0 (((),((),((0:Int),()))),(((nilL (.int .u32)),((0:Int),((nilL (.sl (.int .u8))),()))),(((nilL (.int .u32)),((IntKind.wrap .u32 ((L.get x0.2.2.2.2.2.2.2.1 x1.toNat).2.1)),((),()))),y1.1)))).bind fun d3=>match d3 with | .inl y2=>some (((y2.2.2.2.2.2.1,(y2.2.2.1.2.1,y2.2.2.2.2.2.2)),()),()) | .inr e=>nomatch e) else none
noncomputable def c129r:Ctr:={ ins:=[.v Ty202,.v (.int .i64),.v (.sl (.sl (.int .u8)))],out:=[Ty112],F:=fun x=>g129r x.1 x.2.1 x.2.2.1,fr:=1 }
noncomputable def l129r:List (Nat×Code):=loopsIn (Tryz.f129.body.getD .skip) 0
theorem w129r_L0:LW t129r a129r l129r 0 0 h129r_L0 e129r_L0 s129r_L0:=fun x=>by kernel_rfl
theorem o129r:Holds Tryz.prog 129 c129r:=fh t129r a129r Tryz.func129 [(0,lg l129r 0)] ⟨fun x d h=>(w129r_L0 x).trans h,trivial⟩ (tc o130r tn)
noncomputable def t34r:Tbl:=[(119,[],c119)]
abbrev h34r_L0:Shape:={ slots:=[(1,.bx 1 0),(2,.bx 2 0),(3,.bx 3 0),(4,.v (.int .i64))],boxes:=[(1,.typ Ty93),(2,.cells [.v (.int .i64),.v (.int .i64),.v (.int .i64),.row Ty60 60131]),(3,.cells [.v (.int .i64),.v (.int .i64),.v (.int .i64),.row Ty60 60195])] }
abbrev e34r_L0:List (XT×Shape):=[(.exit 0,{ slots:=[(2,.bx 2 0),(3,.bx 3 0)],boxes:=[(2,.cells [.v (.int .i64),.v (.int .i64),.v (.int .i64),.ms 60131]),(3,.cells [.v (.int .i64),.v (.int .i64),.v (.int .i64),.ms 60195]),(60131,.row Ty60),(60195,.row Ty60)] })]
noncomputable def q34r_L0 (t4:Int) (b1:(Int×(Int×(Int×Unit)))) (b2_0:Int) (b2_1:Int) (b2_2:Int) (b2_3:Ta9) (b3_0:Int) (b3_1:Int) (b3_2:Int) (b3_3:Ta9):Option ((Ta29×((Int×(Int×(Int×Unit)))×(Ta70×(Ta70×Unit))))⊕(((Unit×(Unit×Unit))×((Int×(Int×(Int×(Unit×Unit))))×((Int×(Int×(Int×(Unit×Unit))))×(Ta9×Ta34))))⊕Empty)) :=
bif (decide (t4 < b1.1)) then bif (decide (b3_3.len + (L.of (Ty.zero Ty60) [(L.of (Ty.zero Ty48) [])]).len≤most)) then some (.inl (((),((),((),((wI (t4 + (1:Int))),())))),(b1,((b2_0,(b2_1,(b2_2,(b2_3,())))),((b3_0,(b3_1,(b3_2,((L.app b3_3 (L.of (Ty.zero Ty60) [(L.of (Ty.zero Ty48) [])])),())))),()))))) else none else some (.inr (.inl (((),((),())),((b2_0,(b2_1,(b2_2,((),())))),((b3_0,(b3_1,(b3_2,((),())))),(b2_3,(b3_3,())))))))
noncomputable def s34r_L0 (x:(Ta29×((Int×(Int×(Int×Unit)))×(Ta70×(Ta70×Unit))))):=q34r_L0 x.1.2.2.2.1 x.2.1 x.2.2.1.1 x.2.2.1.2.1 x.2.2.1.2.2.1 x.2.2.1.2.2.2.1 x.2.2.2.1.1 x.2.2.2.1.2.1 x.2.2.2.1.2.2.1 x.2.2.2.1.2.2.2.1
noncomputable def a34r:Nat→Option LoopAnn:=fun c=>bif Nat.beq c 0 then some (.fix h34r_L0 e34r_L0 s34r_L0) else none
noncomputable def g34r (x0:(Int×(Int×(Int×Unit)))):Option (Ta92×Unit) :=
bif (!(f119 x0)) then some (((((0:Int),((0:Int),((0:Int),()))),((nilL Ty60),())),()),()) else (fixO s34r_L0 (((),((),((),((0:Int),())))),(x0,(((0:Int),((0:Int),((0:Int),((nilL Ty60),())))),((x0.1,(x0.2.1,(x0.2.2.1,((nilL Ty60),())))),()))))).bind fun d2=>match d2 with | .inl y1=>some ((((y1.2.2.1.1,(y1.2.2.1.2.1,(y1.2.2.1.2.2.1,()))),y1.2.2.2.2),()),()) | .inr e=>nomatch e
noncomputable def c34r:Ctr:={ ins:=[.v Ty93],out:=[Ty142],F:=fun x=>g34r x.1,fr:=1 }
noncomputable def l34r:List (Nat×Code):=loopsIn (Tryz.f34.body.getD .skip) 0
theorem w34r_L0:LW t34r a34r l34r 0 0 h34r_L0 e34r_L0 s34r_L0:=fun x=>by kernel_rfl
theorem o34r:Holds Tryz.prog 34 c34r:=fh t34r a34r Tryz.func34 [(0,lg l34r 0)] ⟨fun x d h=>(w34r_L0 x).trans h,trivial⟩ (tc o119 tn)
noncomputable def t35r:Tbl:=[(97,[],c97)]
noncomputable def g35r (x0:Int):Option (((Int×((L Int)×Unit))×Unit)×Unit) :=
bif (!(f97 x0 (1:Int) (8:Int))) then some ((((0:Int),((nilL (.int .i64)),())),()),()) else some (((x0,((nilL (.int .i64)),())),()),())
noncomputable def f35r (x0:Int):(Int×((L Int)×Unit)) :=
bif (!(f97 x0 (1:Int) (8:Int))) then ((0:Int),((nilL (.int .i64)),())) else (x0,((nilL (.int .i64)),()))
theorem n35r (x0:Int):g35r x0 = some ((f35r x0,()),()):=by simp only [g35r,f35r,pull1]
noncomputable def c35r:Ctr:={ ins:=[.v (.int .i64)],out:=[Ty73],F:=fun x=>some ((f35r x.1,()),()),fr:=1 }
theorem o35r:Holds Tryz.prog 35 c35r:=f0T t35r (fun x=>g35r x.1) Tryz.func35 (tc o97 tn) (fun x=>n35r x.1)
noncomputable def t46r:Tbl:=[(129,[],c129r),(34,[],c34r),(35,[],c35r),(130,[],c130r)]
abbrev h46r_L0:Shape:={ slots:=[(3,.bx 3 0),(6,.bx 6 0),(7,.bx 7 0),(8,.v (.int .i64))],boxes:=[(3,.typ Ty202),(6,.cells [.row (.int .u32) 60384,.v (.int .u32),.row (.sl (.int .u8)) 60386,.v .bool,.v (.int .u32),.v (.int .u32),.v (.int .u32),.v (.int .u32),.v .bool,.v .bool,.v (.int .u32),.v (.int .i64),.v (.int .i64),.v (.int .i64),.v .bool,.v (.int .i64),.v (.int .i64),.v (.int .i64),.row Ty60 60402,.v (.int .i64),.row (.int .i64) 60404,.v (.int .i64),.v .bool,.row (.sl (.int .u8)) 60407,.row Ty71 60408,.row Ty27 60409,.row Ty84 60410]),(7,.cells [.ms 1000832,.v (.int .u32),.ms 1000833,.v .bool,.v (.int .u32),.v (.int .u32),.v (.int .u32),.v (.int .u32),.v .bool,.v .bool,.v (.int .u32),.v (.int .i64),.v (.int .i64),.v (.int .i64),.v .bool,.v (.int .i64),.v (.int .i64),.v (.int .i64),.ms 1001024,.v (.int .i64),.ms 1001216,.v (.int .i64),.v .bool,.ms 1001344,.row Ty71 60472,.row Ty27 60473,.row Ty84 60474]),(1000832,.row (.int .u32)),(1000833,.row (.sl (.int .u8))),(1001024,.row Ty60),(1001216,.row (.int .i64)),(1001344,.row (.sl (.int .u8)))] }
abbrev e46r_L0:List (XT×Shape):=[(.exit 0,{ slots:=[(3,.bx 3 0),(6,.bx 6 0),(7,.bx 7 0)],boxes:=[(3,.typ Ty202),(6,.cells [.ms 60384,.v (.int .u32),.ms 60386,.v .bool,.v (.int .u32),.v (.int .u32),.v (.int .u32),.v (.int .u32),.v .bool,.v .bool,.v (.int .u32),.v (.int .i64),.v (.int .i64),.v (.int .i64),.v .bool,.v (.int .i64),.v (.int .i64),.v (.int .i64),.ms 60402,.v (.int .i64),.ms 60404,.v (.int .i64),.v .bool,.ms 60407,.ms 60408,.ms 60409,.ms 60410]),(7,.cells [.ms 1000832,.v (.int .u32),.ms 1000833,.v .bool,.v (.int .u32),.v (.int .u32),.v (.int .u32),.v (.int .u32),.v .bool,.v .bool,.v (.int .u32),.v (.int .i64),.v (.int .i64),.v (.int .i64),.v .bool,.v (.int .i64),.v (.int .i64),.v (.int .i64),.ms 1001024,.v (.int .i64),.ms 1001216,.v (.int .i64),.v .bool,.ms 1001344,.ms 60472,.ms 60473,.ms 60474]),(60384,.row (.int .u32)),(60386,.row (.sl (.int .u8))),(60402,.row Ty60),(60404,.row (.int .i64)),(60407,.row (.sl (.int .u8))),(60408,.row Ty71),(60409,.row Ty27),(60410,.row Ty84),(1000832,.row (.int .u32)),(1000833,.row (.sl (.int .u8))),(1001024,.row Ty60),(1001216,.row (.int .i64)),(1001344,.row (.sl (.int .u8))),(60472,.row Ty71),(60473,.row Ty27),(60474,.row Ty84)] })]
noncomputable def q46r_L0 (t8:Int) (b3:Ta176) (b6_0:(L Int)) (b6_1:Int) (b6_2:(L (L Int))) (b6_3:Bool) (b6_4:Int) (b6_5:Int) (b6_6:Int) (b6_7:Int) (b6_8:Bool) (b6_9:Bool) (b6_10:Int) (b6_11:Int) (b6_12:Int) (b6_13:Int) (b6_14:Bool) (b6_15:Int) (b6_16:Int) (b6_17:Int) (b6_18:Ta9) (b6_19:Int) (b6_20:(L Int)) (b6_21:Int) (b6_22:Bool) (b6_23:(L (L Int))) (b6_24:Ta3) (b6_25:(L ((L Int)×Unit))) (b6_26:Ta19) (b7_1:Int) (b7_3:Bool) (b7_4:Int) (b7_5:Int) (b7_6:Int) (b7_7:Int) (b7_8:Bool) (b7_9:Bool) (b7_10:Int) (b7_11:Int) (b7_12:Int) (b7_13:Int) (b7_14:Bool) (b7_15:Int) (b7_16:Int) (b7_17:Int) (b7_19:Int) (b7_21:Int) (b7_22:Bool) (b7_24:Ta3) (b7_25:(L ((L Int)×Unit))) (b7_26:Ta19) (r1000832:(L Int)) (r1000833:(L (L Int))) (r1001024:Ta9) (r1001216:(L Int)) (r1001344:(L (L Int))):Option ((Ta29×(Ta176×(((L Int)×(Int×((L (L Int))×(Bool×(Int×(Int×(Int×(Int×(Bool×(Bool×(Int×(Int×(Int×(Int×(Bool×(Int×(Int×(Int×(Ta9×(Int×((L Int)×Ta130)))))))))))))))))))))×((Unit×(Int×(Unit×(Bool×(Int×(Int×(Int×(Int×(Bool×(Bool×(Int×(Int×(Int×(Int×(Bool×(Int×(Int×(Int×(Unit×(Int×(Unit×(Int×(Bool×(Unit×Ta113))))))))))))))))))))))))×((L Int)×((L (L Int))×(Ta9×Ta18)))))))⊕((Ta10×Ta204)⊕Empty)) :=
bif (decide (t8 < (b3.2.2.2.2.2.2.2.2.2.1.len:Int))) then bif (decide (b7_24.len + (L.of (Ty.zero Ty71) [((0:Int),((nilL (.int .u32)),()))]).len≤most)) then bif (decide (b7_25.len + (L.of (Ty.zero Ty27) [((nilL (.int .u32)),())]).len≤most)) then some (.inl (((),((),((),((wI (t8 + (1:Int))),())))),(b3,((b6_0,(b6_1,(b6_2,(b6_3,(b6_4,(b6_5,(b6_6,(b6_7,(b6_8,(b6_9,(b6_10,(b6_11,(b6_12,(b6_13,(b6_14,(b6_15,(b6_16,(b6_17,(b6_18,(b6_19,(b6_20,(b6_21,(b6_22,(b6_23,(b6_24,(b6_25,(b6_26,()))))))))))))))))))))))))))),(((),(b7_1,((),(b7_3,(b7_4,(b7_5,(b7_6,(b7_7,(b7_8,(b7_9,(b7_10,(b7_11,(b7_12,(b7_13,(b7_14,(b7_15,(b7_16,(b7_17,((),(b7_19,((),(b7_21,(b7_22,((),((L.app b7_24 (L.of (Ty.zero Ty71) [((0:Int),((nilL (.int .u32)),()))])),((L.app b7_25 (L.of (Ty.zero Ty27) [((nilL (.int .u32)),())])),(b7_26,()))))))))))))))))))))))))))),(r1000832,(r1000833,(r1001024,(r1001216,(r1001344,())))))))))) else none else none else some (.inr (.inl (((),((),((),()))),(b3,(((),(b6_1,((),(b6_3,(b6_4,(b6_5,(b6_6,(b6_7,(b6_8,(b6_9,(b6_10,(b6_11,(b6_12,(b6_13,(b6_14,(b6_15,(b6_16,(b6_17,((),(b6_19,((),(b6_21,(b6_22,((),((),((),((),()))))))))))))))))))))))))))),(((),(b7_1,((),(b7_3,(b7_4,(b7_5,(b7_6,(b7_7,(b7_8,(b7_9,(b7_10,(b7_11,(b7_12,(b7_13,(b7_14,(b7_15,(b7_16,(b7_17,((),(b7_19,((),(b7_21,(b7_22,((),((),((),((),()))))))))))))))))))))))))))),(b6_0,(b6_2,(b6_18,(b6_20,(b6_23,(b6_24,(b6_25,(b6_26,(r1000832,(r1000833,(r1001024,(r1001216,(r1001344,(b7_24,(b7_25,(b7_26,()))))))))))))))))))))))
noncomputable def s46r_L0 (x:(Ta29×(Ta176×(((L Int)×(Int×((L (L Int))×(Bool×(Int×(Int×(Int×(Int×(Bool×(Bool×(Int×(Int×(Int×(Int×(Bool×(Int×(Int×(Int×(Ta9×(Int×((L Int)×Ta130)))))))))))))))))))))×((Unit×(Int×(Unit×(Bool×(Int×(Int×(Int×(Int×(Bool×(Bool×(Int×(Int×(Int×(Int×(Bool×(Int×(Int×(Int×(Unit×(Int×(Unit×(Int×(Bool×(Unit×Ta113))))))))))))))))))))))))×((L Int)×((L (L Int))×(Ta9×Ta18)))))))):=q46r_L0 x.1.2.2.2.1 x.2.1 x.2.2.1.1 x.2.2.1.2.1 x.2.2.1.2.2.1 x.2.2.1.2.2.2.1 x.2.2.1.2.2.2.2.1 x.2.2.1.2.2.2.2.2.1 x.2.2.1.2.2.2.2.2.2.1 x.2.2.1.2.2.2.2.2.2.2.1 x.2.2.1.2.2.2.2.2.2.2.2.1 x.2.2.1.2.2.2.2.2.2.2.2.2.1 x.2.2.1.2.2.2.2.2.2.2.2.2.2.1 x.2.2.1.2.2.2.2.2.2.2.2.2.2.2.1 x.2.2.1.2.2.2.2.2.2.2.2.2.2.2.2.1 x.2.2.1.2.2.2.2.2.2.2.2.2.2.2.2.2.1 x.2.2.1.2.2.2.2.2.2.2.2.2.2.2.2.2.2.1 x.2.2.1.2.2.2.2.2.2.2.2.2.2.2.2.2.2.2.1 x.2.2.1.2.2.2.2.2.2.2.2.2.2.2.2.2.2.2.2.1 x.2.2.1.2.2.2.2.2.2.2.2.2.2.2.2.2.2.2.2.2.1 x.2.2.1.2.2.2.2.2.2.2.2.2.2.2.2.2.2.2.2.2.2.1 x.2.2.1.2.2.2.2.2.2.2.2.2.2.2.2.2.2.2.2.2.2.2.1 x.2.2.1.2.2.2.2.2.2.2.2.2.2.2.2.2.2.2.2.2.2.2.2.1 x.2.2.1.2.2.2.2.2.2.2.2.2.2.2.2.2.2.2.2.2.2.2.2.2.1 x.2.2.1.2.2.2.2.2.2.2.2.2.2.2.2.2.2.2.2.2.2.2.2.2.2.1 x.2.2.1.2.2.2.2.2.2.2.2.2.2.2.2.2.2.2.2.2.2.2.2.2.2.2.1 x.2.2.1.2.2.2.2.2.2.2.2.2.2.2.2.2.2.2.2.2.2.2.2.2.2.2.2.1 x.2.2.1.2.2.2.2.2.2.2.2.2.2.2.2.2.2.2.2.2.2.2.2.2.2.2.2.2.1 x.2.2.1.2.2.2.2.2.2.2.2.2.2.2.2.2.2.2.2.2.2.2.2.2.2.2.2.2.2.1 x.2.2.2.1.2.1 x.2.2.2.1.2.2.2.1 x.2.2.2.1.2.2.2.2.1 x.2.2.2.1.2.2.2.2.2.1 x.2.2.2.1.2.2.2.2.2.2.1 x.2.2.2.1.2.2.2.2.2.2.2.1 x.2.2.2.1.2.2.2.2.2.2.2.2.1 x.2.2.2.1.2.2.2.2.2.2.2.2.2.1 x.2.2.2.1.2.2.2.2.2.2.2.2.2.2.1 x.2.2.2.1.2.2.2.2.2.2.2.2.2.2.2.1 x.2.2.2.1.2.2.2.2.2.2.2.2.2.2.2.2.1 x.2.2.2.1.2.2.2.2.2.2.2.2.2.2.2.2.2.1 x.2.2.2.1.2.2.2.2.2.2.2.2.2.2.2.2.2.2.1 x.2.2.2.1.2.2.2.2.2.2.2.2.2.2.2.2.2.2.2.1 x.2.2.2.1.2.2.2.2.2.2.2.2.2.2.2.2.2.2.2.2.1 x.2.2.2.1.2.2.2.2.2.2.2.2.2.2.2.2.2.2.2.2.2.1 x.2.2.2.1.2.2.2.2.2.2.2.2.2.2.2.2.2.2.2.2.2.2.2.1 x.2.2.2.1.2.2.2.2.2.2.2.2.2.2.2.2.2.2.2.2.2.2.2.2.2.1 x.2.2.2.1.2.2.2.2.2.2.2.2.2.2.2.2.2.2.2.2.2.2.2.2.2.2.1 x.2.2.2.1.2.2.2.2.2.2.2.2.2.2.2.2.2.2.2.2.2.2.2.2.2.2.2.2.1 x.2.2.2.1.2.2.2.2.2.2.2.2.2.2.2.2.2.2.2.2.2.2.2.2.2.2.2.2.2.1 x.2.2.2.1.2.2.2.2.2.2.2.2.2.2.2.2.2.2.2.2.2.2.2.2.2.2.2.2.2.2.1 x.2.2.2.2.1 x.2.2.2.2.2.1 x.2.2.2.2.2.2.1 x.2.2.2.2.2.2.2.1 x.2.2.2.2.2.2.2.2.1
abbrev h46r_L2:Shape:={ slots:=[(3,.bx 3 0),(6,.bx 6 0),(7,.bx 7 0),(9,.v (.int .i64))],boxes:=[(3,.typ Ty202),(6,.cells [.ms 60384,.v (.int .u32),.ms 60386,.v .bool,.v (.int .u32),.v (.int .u32),.v (.int .u32),.v (.int .u32),.v .bool,.v .bool,.v (.int .u32),.v (.int .i64),.v (.int .i64),.v (.int .i64),.v .bool,.v (.int .i64),.v (.int .i64),.v (.int .i64),.ms 60402,.v (.int .i64),.ms 60404,.v (.int .i64),.v .bool,.ms 60407,.ms 60408,.ms 60409,.ms 60410]),(7,.cells [.ms 1000832,.v (.int .u32),.ms 1000833,.v .bool,.v (.int .u32),.v (.int .u32),.v (.int .u32),.v (.int .u32),.v .bool,.v .bool,.v (.int .u32),.v (.int .i64),.v (.int .i64),.v (.int .i64),.v .bool,.v (.int .i64),.v (.int .i64),.v (.int .i64),.ms 1001024,.v (.int .i64),.ms 1001216,.v (.int .i64),.v .bool,.ms 1001344,.ms 60472,.ms 60473,.ms 60474]),(60384,.row (.int .u32)),(60386,.row (.sl (.int .u8))),(60402,.row Ty60),(60404,.row (.int .i64)),(60407,.row (.sl (.int .u8))),(60408,.row Ty71),(60409,.row Ty27),(60410,.row Ty84),(1000832,.row (.int .u32)),(1000833,.row (.sl (.int .u8))),(1001024,.row Ty60),(1001216,.row (.int .i64)),(1001344,.row (.sl (.int .u8))),(60472,.row Ty71),(60473,.row Ty27),(60474,.row Ty84)] }
abbrev e46r_L2:List (XT×Shape):=[(.exit 2,{ slots:=[(6,.bx 6 0),(7,.bx 7 0)],boxes:=[(6,.cells [.ms 60384,.v (.int .u32),.ms 60386,.v .bool,.v (.int .u32),.v (.int .u32),.v (.int .u32),.v (.int .u32),.v .bool,.v .bool,.v (.int .u32),.v (.int .i64),.v (.int .i64),.v (.int .i64),.v .bool,.v (.int .i64),.v (.int .i64),.v (.int .i64),.ms 60402,.v (.int .i64),.ms 60404,.v (.int .i64),.v .bool,.ms 60407,.ms 60408,.ms 60409,.ms 60410]),(7,.cells [.ms 1000832,.v (.int .u32),.ms 1000833,.v .bool,.v (.int .u32),.v (.int .u32),.v (.int .u32),.v (.int .u32),.v .bool,.v .bool,.v (.int .u32),.v (.int .i64),.v (.int .i64),.v (.int .i64),.v .bool,.v (.int .i64),.v (.int .i64),.v (.int .i64),.ms 1001024,.v (.int .i64),.ms 1001216,.v (.int .i64),.v .bool,.ms 1001344,.ms 60472,.ms 60473,.ms 60474]),(60384,.row (.int .u32)),(60386,.row (.sl (.int .u8))),(60402,.row Ty60),(60404,.row (.int .i64)),(60407,.row (.sl (.int .u8))),(60408,.row Ty71),(60409,.row Ty27),(60410,.row Ty84),(1000832,.row (.int .u32)),(1000833,.row (.sl (.int .u8))),(1001024,.row Ty60),(1001216,.row (.int .i64)),(1001344,.row (.sl (.int .u8))),(60472,.row Ty71),(60473,.row Ty27),(60474,.row Ty84)] })]
noncomputable def q46r_L2 (t9:Int) (b3:Ta176) (b6_1:Int) (b6_3:Bool) (b6_4:Int) (b6_5:Int) (b6_6:Int) (b6_7:Int) (b6_8:Bool) (b6_9:Bool) (b6_10:Int) (b6_11:Int) (b6_12:Int) (b6_13:Int) (b6_14:Bool) (b6_15:Int) (b6_16:Int) (b6_17:Int) (b6_19:Int) (b6_21:Int) (b6_22:Bool) (b7_1:Int) (b7_3:Bool) (b7_4:Int) (b7_5:Int) (b7_6:Int) (b7_7:Int) (b7_8:Bool) (b7_9:Bool) (b7_10:Int) (b7_11:Int) (b7_12:Int) (b7_13:Int) (b7_14:Bool) (b7_15:Int) (b7_16:Int) (b7_17:Int) (b7_19:Int) (b7_21:Int) (b7_22:Bool) (r60384:(L Int)) (r60386:(L (L Int))) (r60402:Ta9) (r60404:(L Int)) (r60407:(L (L Int))) (r60408:Ta3) (r60409:(L ((L Int)×Unit))) (r60410:Ta19) (r1000832:(L Int)) (r1000833:(L (L Int))) (r1001024:Ta9) (r1001216:(L Int)) (r1001344:(L (L Int))) (r60472:Ta3) (r60473:(L ((L Int)×Unit))) (r60474:Ta19):Option ((Ta29×Ta204)⊕(((Unit×(Unit×Unit))×Ta199)⊕Empty)) :=
bif (decide (t9 < (b3.2.2.2.2.2.2.2.2.1.len:Int))) then bif (decide (r60474.len + (L.of (Ty.zero Ty84) [((nilL (.int .u32)),((nilL (.int .u32)),()))]).len≤most)) then some (.inl (((),((),((),((wI (t9 + (1:Int))),())))),(b3,(((),(b6_1,((),(b6_3,(b6_4,(b6_5,(b6_6,(b6_7,(b6_8,(b6_9,(b6_10,(b6_11,(b6_12,(b6_13,(b6_14,(b6_15,(b6_16,(b6_17,((),(b6_19,((),(b6_21,(b6_22,((),((),((),((),()))))))))))))))))))))))))))),(((),(b7_1,((),(b7_3,(b7_4,(b7_5,(b7_6,(b7_7,(b7_8,(b7_9,(b7_10,(b7_11,(b7_12,(b7_13,(b7_14,(b7_15,(b7_16,(b7_17,((),(b7_19,((),(b7_21,(b7_22,((),((),((),((),()))))))))))))))))))))))))))),(r60384,(r60386,(r60402,(r60404,(r60407,(r60408,(r60409,(r60410,(r1000832,(r1000833,(r1001024,(r1001216,(r1001344,(r60472,(r60473,((L.app r60474 (L.of (Ty.zero Ty84) [((nilL (.int .u32)),((nilL (.int .u32)),()))])),()))))))))))))))))))))) else none else some (.inr (.inl (((),((),())),(((),(b6_1,((),(b6_3,(b6_4,(b6_5,(b6_6,(b6_7,(b6_8,(b6_9,(b6_10,(b6_11,(b6_12,(b6_13,(b6_14,(b6_15,(b6_16,(b6_17,((),(b6_19,((),(b6_21,(b6_22,((),((),((),((),()))))))))))))))))))))))))))),(((),(b7_1,((),(b7_3,(b7_4,(b7_5,(b7_6,(b7_7,(b7_8,(b7_9,(b7_10,(b7_11,(b7_12,(b7_13,(b7_14,(b7_15,(b7_16,(b7_17,((),(b7_19,((),(b7_21,(b7_22,((),((),((),((),()))))))))))))))))))))))))))),(r60384,(r60386,(r60402,(r60404,(r60407,(r60408,(r60409,(r60410,(r1000832,(r1000833,(r1001024,(r1001216,(r1001344,(r60472,(r60473,(r60474,())))))))))))))))))))))
noncomputable def s46r_L2 (x:(Ta29×Ta204)):=q46r_L2 x.1.2.2.2.1 x.2.1 x.2.2.1.2.1 x.2.2.1.2.2.2.1 x.2.2.1.2.2.2.2.1 x.2.2.1.2.2.2.2.2.1 x.2.2.1.2.2.2.2.2.2.1 x.2.2.1.2.2.2.2.2.2.2.1 x.2.2.1.2.2.2.2.2.2.2.2.1 x.2.2.1.2.2.2.2.2.2.2.2.2.1 x.2.2.1.2.2.2.2.2.2.2.2.2.2.1 x.2.2.1.2.2.2.2.2.2.2.2.2.2.2.1 x.2.2.1.2.2.2.2.2.2.2.2.2.2.2.2.1 x.2.2.1.2.2.2.2.2.2.2.2.2.2.2.2.2.1 x.2.2.1.2.2.2.2.2.2.2.2.2.2.2.2.2.2.1 x.2.2.1.2.2.2.2.2.2.2.2.2.2.2.2.2.2.2.1 x.2.2.1.2.2.2.2.2.2.2.2.2.2.2.2.2.2.2.2.1 x.2.2.1.2.2.2.2.2.2.2.2.2.2.2.2.2.2.2.2.2.1 x.2.2.1.2.2.2.2.2.2.2.2.2.2.2.2.2.2.2.2.2.2.2.1 x.2.2.1.2.2.2.2.2.2.2.2.2.2.2.2.2.2.2.2.2.2.2.2.2.1 x.2.2.1.2.2.2.2.2.2.2.2.2.2.2.2.2.2.2.2.2.2.2.2.2.2.1 x.2.2.2.1.2.1 x.2.2.2.1.2.2.2.1 x.2.2.2.1.2.2.2.2.1 x.2.2.2.1.2.2.2.2.2.1 x.2.2.2.1.2.2.2.2.2.2.1 x.2.2.2.1.2.2.2.2.2.2.2.1 x.2.2.2.1.2.2.2.2.2.2.2.2.1 x.2.2.2.1.2.2.2.2.2.2.2.2.2.1 x.2.2.2.1.2.2.2.2.2.2.2.2.2.2.1 x.2.2.2.1.2.2.2.2.2.2.2.2.2.2.2.1 x.2.2.2.1.2.2.2.2.2.2.2.2.2.2.2.2.1 x.2.2.2.1.2.2.2.2.2.2.2.2.2.2.2.2.2.1 x.2.2.2.1.2.2.2.2.2.2.2.2.2.2.2.2.2.2.1 x.2.2.2.1.2.2.2.2.2.2.2.2.2.2.2.2.2.2.2.1 x.2.2.2.1.2.2.2.2.2.2.2.2.2.2.2.2.2.2.2.2.1 x.2.2.2.1.2.2.2.2.2.2.2.2.2.2.2.2.2.2.2.2.2.1 x.2.2.2.1.2.2.2.2.2.2.2.2.2.2.2.2.2.2.2.2.2.2.2.1 x.2.2.2.1.2.2.2.2.2.2.2.2.2.2.2.2.2.2.2.2.2.2.2.2.2.1 x.2.2.2.1.2.2.2.2.2.2.2.2.2.2.2.2.2.2.2.2.2.2.2.2.2.2.1 x.2.2.2.2.1 x.2.2.2.2.2.1 x.2.2.2.2.2.2.1 x.2.2.2.2.2.2.2.1 x.2.2.2.2.2.2.2.2.1 x.2.2.2.2.2.2.2.2.2.1 x.2.2.2.2.2.2.2.2.2.2.1 x.2.2.2.2.2.2.2.2.2.2.2.1 x.2.2.2.2.2.2.2.2.2.2.2.2.1 x.2.2.2.2.2.2.2.2.2.2.2.2.2.1 x.2.2.2.2.2.2.2.2.2.2.2.2.2.2.1 x.2.2.2.2.2.2.2.2.2.2.2.2.2.2.2.1 x.2.2.2.2.2.2.2.2.2.2.2.2.2.2.2.2.1 x.2.2.2.2.2.2.2.2.2.2.2.2.2.2.2.2.2.1 x.2.2.2.2.2.2.2.2.2.2.2.2.2.2.2.2.2.2.1 x.2.2.2.2.2.2.2.2.2.2.2.2.2.2.2.2.2.2.2.1
noncomputable def a46r:Nat→Option LoopAnn:=fun c=>bif Nat.beq c 0 then some (.fix h46r_L0 e46r_L0 s46r_L0) else bif Nat.beq c 2 then some (.fix h46r_L2 e46r_L2 s46r_L2) else none
noncomputable def g46r (x0:Ta176) (x1:Int) (x2:(L (L Int))):Option (Ta188×Unit) :=
(g129r x0 x1 x2).bind fun y1=>(g34r x0.2.1).bind fun y2=>(g130r x2).bind fun y3=>(fixO s46r_L0 (((),((),((),((0:Int),())))),(x0,(((nilL (.int .u32)),((0:Int),((nilL (.sl (.int .u8))),(false,((0:Int),((0:Int),((0:Int),((0:Int),(false,(false,((0:Int),((0:Int),((0:Int),((0:Int),(false,((0:Int),((0:Int),((0:Int),((nilL Ty60),((0:Int),((nilL (.int .i64)),((0:Int),(false,((nilL (.sl (.int .u8))),((nilL Ty71),((nilL Ty27),((nilL Ty84),()))))))))))))))))))))))))))),(((),(y1.1.1.2.1,((),(false,((0:Int),((0:Int),((0:Int),((0:Int),(false,(false,((0:Int),((0:Int),((0:Int),((0:Int),(false,(y2.1.1.1.1,(y2.1.1.1.2.1,(y2.1.1.1.2.2.1,((),((f35r x0.2.2.1).1,((),((0:Int),(true,((),((nilL Ty71),((nilL Ty27),((nilL Ty84),()))))))))))))))))))))))))))),(y1.1.1.1,(y1.1.1.2.2.1,(y2.1.1.2.1,((f35r x0.2.2.1).2.1,y3.1))))))))).bind fun d7=>match d7 with | .inl y4=>((fixO s46r_L2 (((),((),((),((0:Int),())))),(y4.2.1,(((),(y4.2.2.1.2.1,((),(y4.2.2.1.2.2.2.1,(y4.2.2.1.2.2.2.2.1,(y4.2.2.1.2.2.2.2.2.1,(y4.2.2.1.2.2.2.2.2.2.1,(y4.2.2.1.2.2.2.2.2.2.2.1,(y4.2.2.1.2.2.2.2.2.2.2.2.1,(y4.2.2.1.2.2.2.2.2.2.2.2.2.1,(y4.2.2.1.2.2.2.2.2.2.2.2.2.2.1,(y4.2.2.1.2.2.2.2.2.2.2.2.2.2.2.1,(y4.2.2.1.2.2.2.2.2.2.2.2.2.2.2.2.1,(y4.2.2.1.2.2.2.2.2.2.2.2.2.2.2.2.2.1,(y4.2.2.1.2.2.2.2.2.2.2.2.2.2.2.2.2.2.1,(y4.2.2.1.2.2.2.2.2.2.2.2.2.2.2.2.2.2.2.1,(y4.2.2.1.2.2.2.2.2.2.2.2.2.2.2.2.2.2.2.2.1,(y4.2.2.1.2.2.2.2.2.2.2.2.2.2.2.2.2.2.2.2.2.1,((),(y4.2.2.1.2.2.2.2.2.2.2.2.2.2.2.2.2.2.2.2.2.2.2.1,((),(y4.2.2.1.2.2.2.2.2.2.2.2.2.2.2.2.2.2.2.2.2.2.2.2.2.1,(y4.2.2.1.2.2.2.2.2.2.2.2.2.2.2.2.2.2.2.2.2.2.2.2.2.2.1,((),((),((),((),()))))))))))))))))))))))))))),(((),(y4.2.2.2.1.2.1,((),(y4.2.2.2.1.2.2.2.1,(y4.2.2.2.1.2.2.2.2.1,(y4.2.2.2.1.2.2.2.2.2.1,(y4.2.2.2.1.2.2.2.2.2.2.1,(y4.2.2.2.1.2.2.2.2.2.2.2.1,(y4.2.2.2.1.2.2.2.2.2.2.2.2.1,(y4.2.2.2.1.2.2.2.2.2.2.2.2.2.1,(y4.2.2.2.1.2.2.2.2.2.2.2.2.2.2.1,(y4.2.2.2.1.2.2.2.2.2.2.2.2.2.2.2.1,(y4.2.2.2.1.2.2.2.2.2.2.2.2.2.2.2.2.1,(y4.2.2.2.1.2.2.2.2.2.2.2.2.2.2.2.2.2.1,(y4.2.2.2.1.2.2.2.2.2.2.2.2.2.2.2.2.2.2.1,(y4.2.2.2.1.2.2.2.2.2.2.2.2.2.2.2.2.2.2.2.1,(y4.2.2.2.1.2.2.2.2.2.2.2.2.2.2.2.2.2.2.2.2.1,(y4.2.2.2.1.2.2.2.2.2.2.2.2.2.2.2.2.2.2.2.2.2.1,((),(y4.2.2.2.1.2.2.2.2.2.2.2.2.2.2.2.2.2.2.2.2.2.2.2.1,((),(y4.2.2.2.1.2.2.2.2.2.2.2.2.2.2.2.2.2.2.2.2.2.2.2.2.2.1,(y4.2.2.2.1.2.2.2.2.2.2.2.2.2.2.2.2.2.2.2.2.2.2.2.2.2.2.1,((),((),((),((),()))))))))))))))))))))))))))),y4.2.2.2.2))))).bind fun d6=>match d6 with | .inl y5=>some ((((y5.2.2.2.2.2.2.2.2.2.2.2.1,(y5.2.2.1.2.1,(y5.2.2.2.2.2.2.2.2.2.2.2.2.1,()))),((y5.2.2.1.2.2.2.1,(y5.2.2.1.2.2.2.2.1,(y5.2.2.1.2.2.2.2.2.1,(y5.2.2.1.2.2.2.2.2.2.1,(y5.2.2.1.2.2.2.2.2.2.2.1,(y5.2.2.1.2.2.2.2.2.2.2.2.1,(y5.2.2.1.2.2.2.2.2.2.2.2.2.1,(y5.2.2.1.2.2.2.2.2.2.2.2.2.2.1,())))))))),((y5.2.2.1.2.2.2.2.2.2.2.2.2.2.2.1,(y5.2.2.1.2.2.2.2.2.2.2.2.2.2.2.2.1,(y5.2.2.1.2.2.2.2.2.2.2.2.2.2.2.2.2.1,(y5.2.2.1.2.2.2.2.2.2.2.2.2.2.2.2.2.2.1,())))),(((y5.2.2.1.2.2.2.2.2.2.2.2.2.2.2.2.2.2.2.1,(y5.2.2.1.2.2.2.2.2.2.2.2.2.2.2.2.2.2.2.2.1,(y5.2.2.1.2.2.2.2.2.2.2.2.2.2.2.2.2.2.2.2.2.1,()))),(y5.2.2.2.2.2.2.2.2.2.2.2.2.2.1,())),((y5.2.2.1.2.2.2.2.2.2.2.2.2.2.2.2.2.2.2.2.2.2.2.1,(y5.2.2.2.2.2.2.2.2.2.2.2.2.2.2.1,())),(y5.2.2.1.2.2.2.2.2.2.2.2.2.2.2.2.2.2.2.2.2.2.2.2.2.1,(y5.2.2.1.2.2.2.2.2.2.2.2.2.2.2.2.2.2.2.2.2.2.2.2.2.2.1,y5.2.2.2.2.2.2.2.2.2.2.2.2.2.2.2))))))),()),()) | .inr e=>nomatch e) | .inr e=>nomatch e
noncomputable def c46r:Ctr:={ ins:=[.v Ty202,.v (.int .i64),.v (.sl (.sl (.int .u8)))],out:=[Ty203],F:=fun x=>g46r x.1 x.2.1 x.2.2.1,fr:=1 }
noncomputable def l46r:List (Nat×Code):=loopsIn (Tryz.f46.body.getD .skip) 0
theorem w46r_L0:LW t46r a46r l46r 0 0 h46r_L0 e46r_L0 s46r_L0:=fun x=>by kernel_rfl
theorem w46r_L2:LW t46r a46r l46r 1 2 h46r_L2 e46r_L2 s46r_L2:=fun x=>by kernel_rfl
theorem o46r:Holds Tryz.prog 46 c46r:=fh t46r a46r Tryz.func46 [(0,lg l46r 0),(2,lg l46r 1)] ⟨fun x d h=>(w46r_L0 x).trans h,fun x d h=>(w46r_L2 x).trans h,trivial⟩ (tc o129r (tc o34r (tc o35r (tc o130r tn))))
noncomputable def t11r:Tbl:=[(45,[],c45),(46,[],c46r)]
noncomputable def g11r (x0:Ta176) (x1:Int) (x2:(L (L Int))):Option ((Ta187×(Bool×Unit))×Unit) :=
(g45 x0 x1 x2).bind fun y1=>bif (!y1.1.1) then some (((((nilL (.int .u32)),((0:Int),((nilL (.sl (.int .u8))),()))),((false,((0:Int),((0:Int),((0:Int),((0:Int),(false,(false,((0:Int),())))))))),(((0:Int),((0:Int),((0:Int),(false,())))),((((0:Int),((0:Int),((0:Int),()))),((nilL Ty60),())),(((0:Int),((nilL (.int .i64)),())),((0:Int),(false,((nilL (.sl (.int .u8))),((nilL Ty71),((nilL Ty27),((nilL Ty84),()))))))))))),false,()),()) else (g46r x0 x1 x2).bind fun y2=>some ((((y2.1.1.1.1,(y2.1.1.1.2.1,y2.1.1.1.2.2)),(y2.1.1.2.1,(y2.1.1.2.2.1,((y2.1.1.2.2.2.1.1,y2.1.1.2.2.2.1.2),((y2.1.1.2.2.2.2.1.1,y2.1.1.2.2.2.2.1.2),(y2.1.1.2.2.2.2.2.1,(y2.1.1.2.2.2.2.2.2.1,y2.1.1.2.2.2.2.2.2.2))))))),true,()),())
noncomputable def c11r:Ctr:={ ins:=[.v Ty202,.v (.int .i64),.v (.sl (.sl (.int .u8)))],out:=[Ty203,.bool],F:=fun x=>g11r x.1 x.2.1 x.2.2.1,fr:=1 }
theorem o11r:Holds Tryz.prog 11 c11r:=f0 t11r Tryz.func11 (tc o45 (tc o46r tn))
noncomputable def t136:Tbl:=[]
noncomputable def g136 (x0:Int) (x1:Int) (x2:Int):Option ((Bool×Unit)×Unit) :=
bif (decide (x0 ≥ x1)) then some (((decide (x0≤x2)),()),()) else some ((false,()),())
noncomputable def f136 (x0:Int) (x1:Int) (x2:Int):Bool :=
bif (decide (x0 ≥ x1)) then (decide (x0≤x2)) else false
theorem n136 (x0:Int) (x1:Int) (x2:Int):g136 x0 x1 x2 = some ((f136 x0 x1 x2,()),()):=by simp only [g136,f136,pull1]
noncomputable def c136:Ctr:={ ins:=[.v (.int .i64),.v (.int .i64),.v (.int .i64)],out:=[.bool],F:=fun x=>some ((f136 x.1 x.2.1 x.2.2.1,()),()) }
theorem o136:Holds Tryz.prog 136 c136:=f0T t136 (fun x=>g136 x.1 x.2.1 x.2.2.1) Tryz.func136 tn (fun x=>n136 x.1 x.2.1 x.2.2.1)
noncomputable def t134:Tbl:=[(136,[],c136)]
noncomputable def g134 (x0:Int):Option ((Bool×Unit)×Unit) :=
bif (f136 x0 (64:Int) (2048:Int)) then some ((((Int.tmod x0 (4:Int)) == (0:Int)),()),()) else some ((false,()),())
noncomputable def f134 (x0:Int):Bool :=
bif (f136 x0 (64:Int) (2048:Int)) then ((Int.tmod x0 (4:Int)) == (0:Int)) else false
theorem n134 (x0:Int):g134 x0 = some ((f134 x0,()),()):=by simp only [g134,f134,pull1]
noncomputable def c134:Ctr:={ ins:=[.v (.int .i64)],out:=[.bool],F:=fun x=>some ((f134 x.1,()),()) }
theorem o134:Holds Tryz.prog 134 c134:=f0T t134 (fun x=>g134 x.1) Tryz.func134 (tc o136 tn) (fun x=>n134 x.1)
noncomputable def t226:Tbl:=[]
noncomputable def g226 (x0:Int):Option ((Bool×Unit)×Unit) :=
bif (decide (x0 > (0:Int))) then some ((((andOf .i64 x0 (wI (x0 - (1:Int)))) == (0:Int)),()),()) else some ((false,()),())
noncomputable def f226 (x0:Int):Bool :=
bif (decide (x0 > (0:Int))) then ((andOf .i64 x0 (wI (x0 - (1:Int)))) == (0:Int)) else false
theorem n226 (x0:Int):g226 x0 = some ((f226 x0,()),()):=by simp only [g226,f226,pull1]
noncomputable def c226:Ctr:={ ins:=[.v (.int .i64)],out:=[.bool],F:=fun x=>some ((f226 x.1,()),()) }
theorem o226:Holds Tryz.prog 226 c226:=f0T t226 (fun x=>g226 x.1) Tryz.func226 tn (fun x=>n226 x.1)
noncomputable def t135:Tbl:=[(136,[],c136),(226,[],c226)]
noncomputable def g135 (x0:(Int×(Int×(Int×Unit)))):Option ((Bool×Unit)×Unit) :=
bif (f136 x0.1 (1:Int) (16:Int)) then bif (f226 x0.1) then bif (f136 x0.2.1 (1:Int) (4:Int)) then bif (f136 x0.2.2.1 (4:Int) (32:Int)) then some (((f226 x0.2.2.1),()),()) else some ((false,()),()) else some ((false,()),()) else some ((false,()),()) else some ((false,()),())
noncomputable def f135 (x0:(Int×(Int×(Int×Unit)))):Bool :=
bif (f136 x0.1 (1:Int) (16:Int)) then bif (f226 x0.1) then bif (f136 x0.2.1 (1:Int) (4:Int)) then bif (f136 x0.2.2.1 (4:Int) (32:Int)) then (f226 x0.2.2.1) else false else false else false else false
theorem n135 (x0:(Int×(Int×(Int×Unit)))):g135 x0 = some ((f135 x0,()),()):=by simp only [g135,f135,pull1]
noncomputable def c135:Ctr:={ ins:=[.v Ty93],out:=[.bool],F:=fun x=>some ((f135 x.1,()),()) }
theorem o135:Holds Tryz.prog 135 c135:=f0T t135 (fun x=>g135 x.1) Tryz.func135 (tc o136 (tc o226 tn)) (fun x=>n135 x.1)
noncomputable def t137:Tbl:=[(136,[],c136)]
noncomputable def a137:Nat→Option LoopAnn:=fun c=>bif Nat.beq c 0 then some (.unroll 7 [1,17,18] [1]) else none
noncomputable def g137 (x0:Ta64):Option ((Bool×Unit)×Unit) :=
bif (!(f136 x0.2.1 (0:Int) (50:Int))) then some ((false,()),()) else bif (!(f136 x0.2.2.1 (0:Int) (50:Int))) then some ((false,()),()) else bif (!(f136 x0.2.2.2.1 (0:Int) (50:Int))) then some ((false,()),()) else bif (!(f136 x0.2.2.2.2.1 (0:Int) (50:Int))) then some ((false,()),()) else bif (!(f136 x0.2.2.2.2.2.1 (0:Int) (50:Int))) then some ((false,()),()) else bif (!(f136 x0.2.2.2.2.2.2.1 (0:Int) (50:Int))) then some ((false,()),()) else some (((f136 x0.1 (1:Int) (20:Int)),()),())
noncomputable def f137 (x0:Ta64):Bool :=
bif (!(f136 x0.2.1 (0:Int) (50:Int))) then false else bif (!(f136 x0.2.2.1 (0:Int) (50:Int))) then false else bif (!(f136 x0.2.2.2.1 (0:Int) (50:Int))) then false else bif (!(f136 x0.2.2.2.2.1 (0:Int) (50:Int))) then false else bif (!(f136 x0.2.2.2.2.2.1 (0:Int) (50:Int))) then false else bif (!(f136 x0.2.2.2.2.2.2.1 (0:Int) (50:Int))) then false else (f136 x0.1 (1:Int) (20:Int))
theorem n137 (x0:Ta64):g137 x0 = some ((f137 x0,()),()):=by simp only [g137,f137,pull1]
noncomputable def c137:Ctr:={ ins:=[.v Ty144],out:=[.bool],F:=fun x=>some ((f137 x.1,()),()) }
noncomputable def l137:List (Nat×Code):=loopsIn (Tryz.f137.body.getD .skip) 0
theorem o137:Holds Tryz.prog 137 c137:=fhT t137 a137 (fun x=>g137 x.1) Tryz.func137 [(0,lg l137 0)] ⟨trivial,trivial⟩ (tc o136 tn) (fun x=>n137 x.1)
noncomputable def t138:Tbl:=[(136,[],c136)]
noncomputable def g138 (x0:Int):Option ((Bool×Unit)×Unit) :=
some (((f136 x0 (1:Int) (5000:Int)),()),())
noncomputable def f138 (x0:Int):Bool :=
(f136 x0 (1:Int) (5000:Int))
theorem n138 (x0:Int):g138 x0 = some ((f138 x0,()),()):=by simp only [g138,f138,pull1]
noncomputable def c138:Ctr:={ ins:=[.v (.int .i64)],out:=[.bool],F:=fun x=>some ((f138 x.1,()),()) }
theorem o138:Holds Tryz.prog 138 c138:=f0T t138 (fun x=>g138 x.1) Tryz.func138 (tc o136 tn) (fun x=>n138 x.1)
noncomputable def t299:Tbl:=[(136,[],c136)]
noncomputable def g299 (x0:Ta64) (x1:Int):Option ((Int×Unit)×Unit) :=
bif (x1 == (9:Int)) then some (((wI (x0.1 + x0.2.1)),()),()) else bif (x1 == (10:Int)) then some (((wI (x0.1 + x0.2.1)),()),()) else bif (f136 x1 (15:Int) (18:Int)) then some (((wI (x0.1 + x0.2.2.1)),()),()) else bif (decide (x1 ≥ (25:Int))) then some (((wI (x0.1 + x0.2.2.2.2.2.1)),()),()) else some ((x0.1,()),())
noncomputable def f299 (x0:Ta64) (x1:Int):Int :=
bif (x1 == (9:Int)) then (wI (x0.1 + x0.2.1)) else bif (x1 == (10:Int)) then (wI (x0.1 + x0.2.1)) else bif (f136 x1 (15:Int) (18:Int)) then (wI (x0.1 + x0.2.2.1)) else bif (decide (x1 ≥ (25:Int))) then (wI (x0.1 + x0.2.2.2.2.2.1)) else x0.1
theorem n299 (x0:Ta64) (x1:Int):g299 x0 x1 = some ((f299 x0 x1,()),()):=by simp only [g299,f299,pull1]
noncomputable def c299:Ctr:={ ins:=[.v Ty144,.v (.int .i64)],out:=[(.int .i64)],F:=fun x=>some ((f299 x.1 x.2.1,()),()) }
theorem o299:Holds Tryz.prog 299 c299:=f0T t299 (fun x=>g299 x.1 x.2.1) Tryz.func299 (tc o136 tn) (fun x=>n299 x.1 x.2.1)
noncomputable def t300:Tbl:=[]
noncomputable def g300 (x0:Ta64) (x1:Ta8):Option ((Int×Unit)×Unit) :=
bif (!x1.1) then bif (!x1.2.1) then bif x1.2.2.1 then some (((wI ((wI ((wI ((0:Int) + x0.2.2.2.1)) + x0.2.2.2.2.1)) + x0.2.2.2.2.2.2.1)),()),()) else some (((wI ((wI ((0:Int) + x0.2.2.2.1)) + x0.2.2.2.2.1)),()),()) else bif x1.2.2.1 then some (((wI ((wI ((0:Int) + x0.2.2.2.1)) + x0.2.2.2.2.2.2.1)),()),()) else some (((wI ((0:Int) + x0.2.2.2.1)),()),()) else bif (!x1.2.1) then bif x1.2.2.1 then some (((wI ((wI ((0:Int) + x0.2.2.2.2.1)) + x0.2.2.2.2.2.2.1)),()),()) else some (((wI ((0:Int) + x0.2.2.2.2.1)),()),()) else bif x1.2.2.1 then some (((wI ((0:Int) + x0.2.2.2.2.2.2.1)),()),()) else some (((0:Int),()),())
noncomputable def f300 (x0:Ta64) (x1:Ta8):Int :=
bif (!x1.1) then bif (!x1.2.1) then bif x1.2.2.1 then (wI ((wI ((wI ((0:Int) + x0.2.2.2.1)) + x0.2.2.2.2.1)) + x0.2.2.2.2.2.2.1)) else (wI ((wI ((0:Int) + x0.2.2.2.1)) + x0.2.2.2.2.1)) else bif x1.2.2.1 then (wI ((wI ((0:Int) + x0.2.2.2.1)) + x0.2.2.2.2.2.2.1)) else (wI ((0:Int) + x0.2.2.2.1)) else bif (!x1.2.1) then bif x1.2.2.1 then (wI ((wI ((0:Int) + x0.2.2.2.2.1)) + x0.2.2.2.2.2.2.1)) else (wI ((0:Int) + x0.2.2.2.2.1)) else bif x1.2.2.1 then (wI ((0:Int) + x0.2.2.2.2.2.2.1)) else (0:Int)
theorem n300 (x0:Ta64) (x1:Ta8):g300 x0 x1 = some ((f300 x0 x1,()),()):=by simp only [g300,f300,pull1]
noncomputable def c300:Ctr:={ ins:=[.v Ty144,.v (.pair .bool (.pair .bool (.pair .bool .unit)))],out:=[(.int .i64)],F:=fun x=>some ((f300 x.1 x.2.1,()),()) }
theorem o300:Holds Tryz.prog 300 c300:=f0T t300 (fun x=>g300 x.1 x.2.1) Tryz.func300 tn (fun x=>n300 x.1 x.2.1)
noncomputable def t227:Tbl:=[(137,[],c137),(299,[],c299),(300,[],c300)]
abbrev h227_L0:Shape:={ slots:=[(1,.bx 1 0),(3,.v (.int .i64)),(8,.v (.int .i64))],boxes:=[(1,.typ Ty144)] }
abbrev e227_L0:List (XT×Shape):=[(.exit 0,{ slots:=[(1,.bx 1 0),(3,.v (.int .i64))],boxes:=[(1,.typ Ty144)] })]
noncomputable def q227_L0 (t3:Int) (t8:Int) (b1:Ta64):Option (Ta108⊕(((Unit×(Int×Unit))×Ta78)⊕Empty)) :=
bif (decide (t8 < (33:Int))) then some (.inl (((),((if (f299 b1 t8) > t3 then (f299 b1 t8) else t3),((wI (t8 + (1:Int))),()))),(b1,()))) else some (.inr (.inl (((),(t3,())),(b1,()))))
noncomputable def s227_L0 (x:Ta108):=q227_L0 x.1.2.1 x.1.2.2.1 x.2.1
noncomputable def a227:Nat→Option LoopAnn:=fun c=>bif Nat.beq c 0 then some (.fix h227_L0 e227_L0 s227_L0) else none
noncomputable def g227 (x0:Ta64):Option ((Int×Unit)×Unit) :=
bif (!(f137 x0)) then some (((-1:Int),()),()) else (fixO s227_L0 (((),((0:Int),((0:Int),()))),(x0,()))).bind fun d2=>match d2 with | .inl y1=>some (((wI ((wI (y1.1.2.1 + (wI ((2:Int) * (f300 y1.2.1 (false,(false,(true,())))))))) + y1.2.1.2.2.2.2.2.1)),()),()) | .inr e=>nomatch e
noncomputable def c227:Ctr:={ ins:=[.v Ty144],out:=[(.int .i64)],F:=fun x=>g227 x.1 }
noncomputable def l227:List (Nat×Code):=loopsIn (Tryz.f227.body.getD .skip) 0
theorem w227_L0:LW t227 a227 l227 0 0 h227_L0 e227_L0 s227_L0:=fun x=>by kernel_rfl
theorem o227:Holds Tryz.prog 227 c227:=fh t227 a227 Tryz.func227 [(0,lg l227 0)] ⟨fun x d h=>(w227_L0 x).trans h,trivial⟩ (tc o137 (tc o299 (tc o300 tn)))
noncomputable def t139:Tbl:=[(227,[],c227)]
noncomputable def g139 (x0:Ta64):Option ((Int×Unit)×Unit) :=
(g227 x0).bind fun y1=>some ((y1.1.1,()),())
noncomputable def c139:Ctr:={ ins:=[.v Ty144],out:=[(.int .i64)],F:=fun x=>g139 x.1 }
theorem o139:Holds Tryz.prog 139 c139:=f0 t139 Tryz.func139 (tc o227 tn)
noncomputable def t301:Tbl:=[(136,[],c136)]
abbrev h301_L0:Shape:={ slots:=[(0,.v .str),(5,.v (.int .i64)),(6,.v (.int .i64))],boxes:=[] }
abbrev e301_L0:List (XT×Shape):=[(.ret,{ slots:=[(2,.v .bool)],boxes:=[] }),(.exit 0,{ slots:=[(0,.v .str)],boxes:=[] })]
noncomputable def q301_L0 (t0:ByteArray) (t5:Int) (t6:Int):Option (((ByteArray×(Int×(Int×Unit)))×Unit)⊕(((Bool×Unit)×Unit)⊕(((ByteArray×Unit)×Unit)⊕Empty))) :=
bif (decide (t6 < t5)) then bif (decide (0≤t6)&&decide (t6 < t0.size)) then bif (decide ((bt t0 t6) < (97:Int))) then some (.inr (.inl ((false,()),()))) else bif (decide (0≤t6)&&decide (t6 < t0.size)) then bif (decide ((bt t0 t6) > (122:Int))) then some (.inr (.inl ((false,()),()))) else some (.inl ((t0,(t5,((wI (t6 + (1:Int))),()))),())) else none else none else some (.inr (.inr (.inl ((t0,()),()))))
noncomputable def s301_L0 (x:((ByteArray×(Int×(Int×Unit)))×Unit)):=q301_L0 x.1.1 x.1.2.1 x.1.2.2.1
noncomputable def a301:Nat→Option LoopAnn:=fun c=>bif Nat.beq c 0 then some (.fix h301_L0 e301_L0 s301_L0) else none
noncomputable def g301 (x0:ByteArray):Option ((Bool×Unit)×Unit) :=
(fixO s301_L0 ((x0,((x0.size:Int),((0:Int),()))),())).bind fun d2=>match d2 with | .inl y1=>some ((y1.1.1,()),()) | .inr (.inl y1)=>some (((f136 (y1.1.1.size:Int) (1:Int) (12:Int)),()),()) | .inr (.inr e)=>nomatch e
noncomputable def c301:Ctr:={ ins:=[.v .str],out:=[.bool],F:=fun x=>g301 x.1 }
noncomputable def l301:List (Nat×Code):=loopsIn (Tryz.f301.body.getD .skip) 0
theorem w301_L0:LW t301 a301 l301 0 0 h301_L0 e301_L0 s301_L0:=fun x=>by kernel_rfl
theorem o301:Holds Tryz.prog 301 c301:=fh t301 a301 Tryz.func301 [(0,lg l301 0)] ⟨fun x d h=>(w301_L0 x).trans h,trivial⟩ (tc o136 tn)
noncomputable def t228:Tbl:=[(301,[],c301)]
noncomputable def g228 (x0:ByteArray):Option ((Bool×Unit)×Unit) :=
(g301 x0).bind fun y1=>bif y1.1.1 then some (((decide ((x0.size:Int)≤(8:Int))),()),()) else some ((false,()),())
noncomputable def c228:Ctr:={ ins:=[.v .str],out:=[.bool],F:=fun x=>g228 x.1 }
theorem o228:Holds Tryz.prog 228 c228:=f0 t228 Tryz.func228 (tc o301 tn)
noncomputable def t303:Tbl:=[]
noncomputable def g303 (x0:Ta98) (x1:ByteArray):Option ((Bool×Unit)×Unit) :=
some (((strEq x0.1 x1),()),())
noncomputable def f303 (x0:Ta98) (x1:ByteArray):Bool :=
(strEq x0.1 x1)
theorem n303 (x0:Ta98) (x1:ByteArray):g303 x0 x1 = some ((f303 x0 x1,()),()):=by simp only [g303,f303,pull1]
noncomputable def c303:Ctr:={ ins:=[.v Ty156,.rf .str],out:=[.bool],F:=fun x=>some ((f303 x.1 x.2.1,()),()) }
theorem o303:Holds Tryz.prog 303 c303:=f0T t303 (fun x=>g303 x.1 x.2.1) Tryz.func303 tn (fun x=>n303 x.1 x.2.1)
noncomputable def t302_303:Tbl:=[(303,[],c303)]
abbrev h302_303_L0:Shape:={ slots:=[(0,.v Ty159),(1,.clo 303 [.str]),(7,.v (.int .i64)),(8,.v (.int .i64))],boxes:=[] }
abbrev e302_303_L0:List (XT×Shape):=[(.ret,{ slots:=[(4,.v (.int .i64))],boxes:=[] }),(.exit 0,{ slots:=[],boxes:=[] })]
noncomputable def q302_303_L0 (t0:Ta102) (t1:(ByteArray×Unit)) (t7:Int) (t8:Int):Option (((Ta102×((ByteArray×Unit)×(Int×(Int×Unit))))×Unit)⊕(((Int×Unit)×Unit)⊕((Unit×Unit)⊕Empty))) :=
bif (decide (t8 < t7)) then bif (decide (0≤t8)&&decide (t8 < (t0.len:Int))) then bif (f303 (L.get t0 t8.toNat) t1.1) then some (.inr (.inl ((t8,()),()))) else some (.inl ((t0,(t1,(t7,((wI (t8 + (1:Int))),())))),())) else none else some (.inr (.inr (.inl ((),()))))
noncomputable def s302_303_L0 (x:((Ta102×((ByteArray×Unit)×(Int×(Int×Unit))))×Unit)):=q302_303_L0 x.1.1 x.1.2.1 x.1.2.2.1 x.1.2.2.2.1
noncomputable def a302_303:Nat→Option LoopAnn:=fun c=>bif Nat.beq c 0 then some (.fix h302_303_L0 e302_303_L0 s302_303_L0) else none
noncomputable def g302_303 (x0:Ta102) (x1:(ByteArray×Unit)):Option ((Int×Unit)×Unit) :=
(fixO s302_303_L0 ((x0,(x1,((x0.len:Int),((0:Int),())))),())).bind fun d2=>match d2 with | .inl y1=>some ((y1.1.1,()),()) | .inr (.inl y1)=>some (((-1:Int),()),()) | .inr (.inr e)=>nomatch e
noncomputable def c302_303:Ctr:={ ins:=[.v Ty159,.clo 303 [.str]],out:=[(.int .i64)],F:=fun x=>g302_303 x.1 x.2.1 }
noncomputable def l302_303:List (Nat×Code):=loopsIn (Tryz.f302.body.getD .skip) 0
theorem w302_303_L0:LW t302_303 a302_303 l302_303 0 0 h302_303_L0 e302_303_L0 s302_303_L0:=fun x=>by kernel_rfl
theorem o302_303:Holds Tryz.prog 302 c302_303:=fh t302_303 a302_303 Tryz.func302 [(0,lg l302_303 0)] ⟨fun x d h=>(w302_303_L0 x).trans h,trivial⟩ (tc o303 tn)
noncomputable def t229:Tbl:=[(302,[303],c302_303)]
noncomputable def g229 (x0:Ta176) (x1:ByteArray):Option ((Int×Unit)×Unit) :=
(g302_303 x0.2.2.2.2.2.2.2.1 (x1,())).bind fun y1=>some ((y1.1.1,()),())
noncomputable def c229:Ctr:={ ins:=[.v Ty202,.v .str],out:=[(.int .i64)],F:=fun x=>g229 x.1 x.2.1 }
theorem o229:Holds Tryz.prog 229 c229:=f0 t229 Tryz.func229 (tc o302_303 tn)
noncomputable def t230:Tbl:=[(136,[],c136)]
noncomputable def g230 (x0:(Int×(Int×Unit))):Option ((Bool×Unit)×Unit) :=
bif (x0.1 == (1:Int)) then some (((f136 x0.2.1 (0:Int) (100:Int)),()),()) else bif (x0.1 == (0:Int)) then some (((x0.2.1 == (0:Int)),()),()) else bif (x0.1 == (2:Int)) then some (((x0.2.1 == (0:Int)),()),()) else some ((false,()),())
noncomputable def f230 (x0:(Int×(Int×Unit))):Bool :=
bif (x0.1 == (1:Int)) then (f136 x0.2.1 (0:Int) (100:Int)) else bif (x0.1 == (0:Int)) then (x0.2.1 == (0:Int)) else bif (x0.1 == (2:Int)) then (x0.2.1 == (0:Int)) else false
theorem n230 (x0:(Int×(Int×Unit))):g230 x0 = some ((f230 x0,()),()):=by simp only [g230,f230,pull1]
noncomputable def c230:Ctr:={ ins:=[.v Ty61],out:=[.bool],F:=fun x=>some ((f230 x.1,()),()) }
theorem o230:Holds Tryz.prog 230 c230:=f0T t230 (fun x=>g230 x.1) Tryz.func230 (tc o136 tn) (fun x=>n230 x.1)
noncomputable def t231:Tbl:=[(136,[],c136)]
noncomputable def g231 (x0:(Int×(Int×(Int×Unit)))):Option ((Bool×Unit)×Unit) :=
bif (f136 x0.2.1 (4:Int) (2048:Int)) then bif ((Int.tmod x0.2.1 (4:Int)) == (0:Int)) then bif (f136 x0.1 (0:Int) (wI ((2048:Int) - x0.2.1))) then bif ((Int.tmod x0.1 (4:Int)) == (0:Int)) then some (((f136 x0.2.2.1 (1:Int) (7:Int)),()),()) else some ((false,()),()) else some ((false,()),()) else some ((false,()),()) else some ((false,()),())
noncomputable def f231 (x0:(Int×(Int×(Int×Unit)))):Bool :=
bif (f136 x0.2.1 (4:Int) (2048:Int)) then bif ((Int.tmod x0.2.1 (4:Int)) == (0:Int)) then bif (f136 x0.1 (0:Int) (wI ((2048:Int) - x0.2.1))) then bif ((Int.tmod x0.1 (4:Int)) == (0:Int)) then (f136 x0.2.2.1 (1:Int) (7:Int)) else false else false else false else false
theorem n231 (x0:(Int×(Int×(Int×Unit)))):g231 x0 = some ((f231 x0,()),()):=by simp only [g231,f231,pull1]
noncomputable def c231:Ctr:={ ins:=[.v Ty93],out:=[.bool],F:=fun x=>some ((f231 x.1,()),()) }
theorem o231:Holds Tryz.prog 231 c231:=f0T t231 (fun x=>g231 x.1) Tryz.func231 (tc o136 tn) (fun x=>n231 x.1)
noncomputable def t234:Tbl:=[]
noncomputable def g234 (x0:(Int×(Int×(Int×Unit)))) (x1:(Int×(Int×(Int×Unit)))):Option ((Bool×Unit)×Unit) :=
bif (decide ((wI (x0.1 + x0.2.1))≤x1.1)) then some ((true,()),()) else some (((decide ((wI (x1.1 + x1.2.1))≤x0.1)),()),())
noncomputable def f234 (x0:(Int×(Int×(Int×Unit)))) (x1:(Int×(Int×(Int×Unit)))):Bool :=
bif (decide ((wI (x0.1 + x0.2.1))≤x1.1)) then true else (decide ((wI (x1.1 + x1.2.1))≤x0.1))
theorem n234 (x0:(Int×(Int×(Int×Unit)))) (x1:(Int×(Int×(Int×Unit)))):g234 x0 x1 = some ((f234 x0 x1,()),()):=by simp only [g234,f234,pull1]
noncomputable def c234:Ctr:={ ins:=[.v Ty93,.v Ty93],out:=[.bool],F:=fun x=>some ((f234 x.1 x.2.1,()),()) }
theorem o234:Holds Tryz.prog 234 c234:=f0T t234 (fun x=>g234 x.1 x.2.1) Tryz.func234 tn (fun x=>n234 x.1 x.2.1)
noncomputable def t233:Tbl:=[(234,[],c234)]
noncomputable def g233 (x0:(Int×(Int×(Int×Unit)))) (x1:(Int×(Int×(Int×Unit)))):Option ((Bool×Unit)×Unit) :=
some (((!(f234 x0 x1)),()),())
noncomputable def f233 (x0:(Int×(Int×(Int×Unit)))) (x1:(Int×(Int×(Int×Unit)))):Bool :=
(!(f234 x0 x1))
theorem n233 (x0:(Int×(Int×(Int×Unit)))) (x1:(Int×(Int×(Int×Unit)))):g233 x0 x1 = some ((f233 x0 x1,()),()):=by simp only [g233,f233,pull1]
noncomputable def c233:Ctr:={ ins:=[.v Ty93,.rf Ty93],out:=[.bool],F:=fun x=>some ((f233 x.1 x.2.1,()),()) }
theorem o233:Holds Tryz.prog 233 c233:=f0T t233 (fun x=>g233 x.1 x.2.1) Tryz.func233 (tc o234 tn) (fun x=>n233 x.1 x.2.1)
noncomputable def t304_233:Tbl:=[(233,[],c233)]
abbrev h304_233_L0:Shape:={ slots:=[(0,.v Ty99),(1,.clo 233 [Ty93]),(7,.v (.int .i64)),(8,.v (.int .i64))],boxes:=[] }
abbrev e304_233_L0:List (XT×Shape):=[(.ret,{ slots:=[(4,.v (.int .i64))],boxes:=[] }),(.exit 0,{ slots:=[],boxes:=[] })]
noncomputable def q304_233_L0 (t0:Ta13) (t1:Ta21) (t7:Int) (t8:Int):Option (((Ta13×(Ta21×(Int×(Int×Unit))))×Unit)⊕(((Int×Unit)×Unit)⊕((Unit×Unit)⊕Empty))) :=
bif (decide (t8 < t7)) then bif (decide (0≤t8)&&decide (t8 < (t0.len:Int))) then bif (f233 (L.get t0 t8.toNat) t1.1) then some (.inr (.inl ((t8,()),()))) else some (.inl ((t0,(t1,(t7,((wI (t8 + (1:Int))),())))),())) else none else some (.inr (.inr (.inl ((),()))))
noncomputable def s304_233_L0 (x:((Ta13×(Ta21×(Int×(Int×Unit))))×Unit)):=q304_233_L0 x.1.1 x.1.2.1 x.1.2.2.1 x.1.2.2.2.1
noncomputable def a304_233:Nat→Option LoopAnn:=fun c=>bif Nat.beq c 0 then some (.fix h304_233_L0 e304_233_L0 s304_233_L0) else none
noncomputable def g304_233 (x0:Ta13) (x1:Ta21):Option ((Int×Unit)×Unit) :=
(fixO s304_233_L0 ((x0,(x1,((x0.len:Int),((0:Int),())))),())).bind fun d2=>match d2 with | .inl y1=>some ((y1.1.1,()),()) | .inr (.inl y1)=>some (((-1:Int),()),()) | .inr (.inr e)=>nomatch e
noncomputable def c304_233:Ctr:={ ins:=[.v Ty99,.clo 233 [Ty93]],out:=[(.int .i64)],F:=fun x=>g304_233 x.1 x.2.1 }
noncomputable def l304_233:List (Nat×Code):=loopsIn (Tryz.f304.body.getD .skip) 0
theorem w304_233_L0:LW t304_233 a304_233 l304_233 0 0 h304_233_L0 e304_233_L0 s304_233_L0:=fun x=>by kernel_rfl
theorem o304_233:Holds Tryz.prog 304 c304_233:=fh t304_233 a304_233 Tryz.func304 [(0,lg l304_233 0)] ⟨fun x d h=>(w304_233_L0 x).trans h,trivial⟩ (tc o233 tn)
noncomputable def t232_233:Tbl:=[(304,[233],c304_233)]
noncomputable def g232_233 (x0:Ta13) (x1:Ta21):Option ((Bool×Unit)×Unit) :=
(g304_233 x0 x1).bind fun y1=>some (((decide (y1.1.1 ≥ (0:Int))),()),())
noncomputable def c232_233:Ctr:={ ins:=[.v Ty99,.clo 233 [Ty93]],out:=[.bool],F:=fun x=>g232_233 x.1 x.2.1 }
theorem o232_233:Holds Tryz.prog 232 c232_233:=f0 t232_233 Tryz.func232 (tc o304_233 tn)
noncomputable def t344:Tbl:=[]
noncomputable def g344 (x0:(Int×(Int×(Int×Unit)))) (x1:Int):Option ((Bool×Unit)×Unit) :=
bif (decide (x0.1≤x1)) then some (((decide (x1 < (wI (x0.1 + x0.2.1)))),()),()) else some ((false,()),())
noncomputable def f344 (x0:(Int×(Int×(Int×Unit)))) (x1:Int):Bool :=
bif (decide (x0.1≤x1)) then (decide (x1 < (wI (x0.1 + x0.2.1)))) else false
theorem n344 (x0:(Int×(Int×(Int×Unit)))) (x1:Int):g344 x0 x1 = some ((f344 x0 x1,()),()):=by simp only [g344,f344,pull1]
noncomputable def c344:Ctr:={ ins:=[.v Ty93,.rf (.int .i64)],out:=[.bool],F:=fun x=>some ((f344 x.1 x.2.1,()),()) }
theorem o344:Holds Tryz.prog 344 c344:=f0T t344 (fun x=>g344 x.1 x.2.1) Tryz.func344 tn (fun x=>n344 x.1 x.2.1)
noncomputable def t304_344:Tbl:=[(344,[],c344)]
abbrev h304_344_L0:Shape:={ slots:=[(0,.v Ty99),(1,.clo 344 [(.int .i64)]),(7,.v (.int .i64)),(8,.v (.int .i64))],boxes:=[] }
abbrev e304_344_L0:List (XT×Shape):=[(.ret,{ slots:=[(4,.v (.int .i64))],boxes:=[] }),(.exit 0,{ slots:=[],boxes:=[] })]
noncomputable def q304_344_L0 (t0:Ta13) (t1:(Int×Unit)) (t7:Int) (t8:Int):Option (((Ta13×Ta23)×Unit)⊕(((Int×Unit)×Unit)⊕((Unit×Unit)⊕Empty))) :=
bif (decide (t8 < t7)) then bif (decide (0≤t8)&&decide (t8 < (t0.len:Int))) then bif (f344 (L.get t0 t8.toNat) t1.1) then some (.inr (.inl ((t8,()),()))) else some (.inl ((t0,(t1,(t7,((wI (t8 + (1:Int))),())))),())) else none else some (.inr (.inr (.inl ((),()))))
noncomputable def s304_344_L0 (x:((Ta13×Ta23)×Unit)):=q304_344_L0 x.1.1 x.1.2.1 x.1.2.2.1 x.1.2.2.2.1
noncomputable def a304_344:Nat→Option LoopAnn:=fun c=>bif Nat.beq c 0 then some (.fix h304_344_L0 e304_344_L0 s304_344_L0) else none
noncomputable def g304_344 (x0:Ta13) (x1:(Int×Unit)):Option ((Int×Unit)×Unit) :=
(fixO s304_344_L0 ((x0,(x1,((x0.len:Int),((0:Int),())))),())).bind fun d2=>match d2 with | .inl y1=>some ((y1.1.1,()),()) | .inr (.inl y1)=>some (((-1:Int),()),()) | .inr (.inr e)=>nomatch e
noncomputable def c304_344:Ctr:={ ins:=[.v Ty99,.clo 344 [(.int .i64)]],out:=[(.int .i64)],F:=fun x=>g304_344 x.1 x.2.1 }
noncomputable def l304_344:List (Nat×Code):=loopsIn (Tryz.f304.body.getD .skip) 0
theorem w304_344_L0:LW t304_344 a304_344 l304_344 0 0 h304_344_L0 e304_344_L0 s304_344_L0:=fun x=>by kernel_rfl
theorem o304_344:Holds Tryz.prog 304 c304_344:=fh t304_344 a304_344 Tryz.func304 [(0,lg l304_344 0)] ⟨fun x d h=>(w304_344_L0 x).trans h,trivial⟩ (tc o344 tn)
noncomputable def t305:Tbl:=[(304,[344],c304_344)]
noncomputable def g305 (x0:Ta13) (x1:Int):Option ((Int×Unit)×Unit) :=
(g304_344 x0 (x1,())).bind fun y1=>some ((y1.1.1,()),())
noncomputable def c305:Ctr:={ ins:=[.v Ty99,.v (.int .i64)],out:=[(.int .i64)],F:=fun x=>g305 x.1 x.2.1 }
theorem o305:Holds Tryz.prog 305 c305:=f0 t305 Tryz.func305 (tc o304_344 tn)
noncomputable def t235:Tbl:=[(305,[],c305)]
noncomputable def g235 (x0:Ta98) (x1:Int):Option ((Bool×Unit)×Unit) :=
(g305 x0.2.2.2.1 x1).bind fun y1=>bif (decide (y1.1.1 ≥ (0:Int))) then bif (decide (0≤y1.1.1)&&decide (y1.1.1 < (x0.2.2.2.1.len:Int))) then some ((((andOf .i64 (L.get x0.2.2.2.1 y1.1.1.toNat).2.2.1 (4:Int)) != (0:Int)),()),()) else none else some ((false,()),())
noncomputable def c235:Ctr:={ ins:=[.v Ty156,.v (.int .i64)],out:=[.bool],F:=fun x=>g235 x.1 x.2.1 }
theorem o235:Holds Tryz.prog 235 c235:=f0 t235 Tryz.func235 (tc o305 tn)
noncomputable def t140:Tbl:=[(228,[],c228),(229,[],c229),(230,[],c230),(136,[],c136),(231,[],c231),(232,[233],c232_233),(235,[],c235)]
abbrev h140_L2:Shape:={ slots:=[(1,.bx 1 0),(3,.ms 50003),(5,.bx 5 0),(9,.v Ty159),(10,.v (.int .i64)),(11,.v (.int .i64)),(42,.v Ty99),(43,.v (.int .i64)),(44,.v (.int .i64))],boxes:=[(1,.typ Ty202),(50003,.row Ty93),(5,.typ Ty156)] }
abbrev e140_L2:List (XT×Shape):=[(.ret,{ slots:=[(2,.v .bool)],boxes:=[] }),(.exit 2,{ slots:=[(1,.bx 1 0),(3,.ms 50003),(5,.bx 5 0),(9,.v Ty159),(10,.v (.int .i64)),(11,.v (.int .i64))],boxes:=[(1,.typ Ty202),(50003,.row Ty93),(5,.typ Ty156)] })]
noncomputable def q140_L2 (t9:Ta102) (t10:Int) (t11:Int) (t42:Ta13) (t43:Int) (t44:Int) (b1:Ta176) (r50003:Ta13) (b5:Ta98):Option (((Unit×(Unit×(Unit×(Ta102×(Int×Ta74)))))×Ta189)⊕(((Bool×Unit)×Unit)⊕(((Unit×(Unit×(Unit×Ta119)))×Ta189)⊕Empty))) :=
bif (decide (t44 < t43)) then bif (decide (0≤t44)&&decide (t44 < (t42.len:Int))) then bif (!(f231 (L.get t42 t44.toNat))) then some (.inr (.inl ((false,()),()))) else bif (decide ((wI ((L.get t42 t44.toNat).1 + (L.get t42 t44.toNat).2.1)) > b1.1)) then some (.inr (.inl ((false,()),()))) else (g232_233 r50003 ((L.get t42 t44.toNat),())).bind fun y3=>bif y3.1.1 then some (.inr (.inl ((false,()),()))) else bif (decide (r50003.len + (L.of (Ty.zero Ty93) [(L.get t42 t44.toNat)]).len≤most)) then some (.inl (((),((),((),(t9,(t10,(t11,(t42,(t43,((wI (t44 + (1:Int))),()))))))))),(b1,((L.app r50003 (L.of (Ty.zero Ty93) [(L.get t42 t44.toNat)])),(b5,()))))) else none else none else some (.inr (.inr (.inl (((),((),((),(t9,(t10,(t11,())))))),(b1,(r50003,(b5,())))))))
noncomputable def s140_L2 (x:((Unit×(Unit×(Unit×(Ta102×(Int×Ta74)))))×Ta189)):=q140_L2 x.1.2.2.2.1 x.1.2.2.2.2.1 x.1.2.2.2.2.2.1 x.1.2.2.2.2.2.2.1 x.1.2.2.2.2.2.2.2.1 x.1.2.2.2.2.2.2.2.2.1 x.2.1 x.2.2.1 x.2.2.2.1
abbrev h140_L0:Shape:={ slots:=[(1,.bx 1 0),(3,.row Ty93 50003),(9,.v Ty159),(10,.v (.int .i64)),(11,.v (.int .i64))],boxes:=[(1,.typ Ty202)] }
abbrev e140_L0:List (XT×Shape):=[(.ret,{ slots:=[(2,.v .bool)],boxes:=[] }),(.exit 0,{ slots:=[],boxes:=[] })]
noncomputable def q140_L0 (t3:Ta13) (t9:Ta102) (t10:Int) (t11:Int) (b1:Ta176):Option (((Unit×(Ta13×Ta119))×Ta178)⊕(((Bool×Unit)×Unit)⊕((Unit×Unit)⊕Empty))) :=
bif (decide (t11 < t10)) then bif (decide (0≤t11)&&decide (t11 < (t9.len:Int))) then (g228 (L.get t9 t11.toNat).1).bind fun y1=>bif (!y1.1.1) then some (.inr (.inl ((false,()),()))) else (g229 b1 (L.get t9 t11.toNat).1).bind fun y2=>bif (decide (y2.1.1 < t11)) then some (.inr (.inl ((false,()),()))) else bif (!(f230 (L.get t9 t11.toNat).2.2.1)) then some (.inr (.inl ((false,()),()))) else bif (!(f136 ((L.get t9 t11.toNat).2.2.2.1.len:Int) (1:Int) (4:Int))) then some (.inr (.inl ((false,()),()))) else ((fixO s140_L2 (((),((),((),(t9,(t10,(t11,((L.get t9 t11.toNat).2.2.2.1,(((L.get t9 t11.toNat).2.2.2.1.len:Int),((0:Int),()))))))))),(b1,(t3,((L.get t9 t11.toNat),()))))).bind fun d6=>match d6 with | .inl y4=>some (.inr (.inl y4)) | .inr (.inl y4)=>bif ((Int.tmod y4.2.2.2.1.2.1 (4:Int)) != (0:Int)) then some (.inr (.inl ((false,()),()))) else (g235 y4.2.2.2.1 y4.2.2.2.1.2.1).bind fun y5=>bif (!y5.1.1) then some (.inr (.inl ((false,()),()))) else some (.inl (((),(y4.2.2.1,(y4.1.2.2.2.1,(y4.1.2.2.2.2.1,((wI (y4.1.2.2.2.2.2.1 + (1:Int))),()))))),(y4.2.1,()))) | .inr (.inr e)=>nomatch e) else none else some (.inr (.inr (.inl ((),()))))
noncomputable def s140_L0 (x:((Unit×(Ta13×Ta119))×Ta178)):=q140_L0 x.1.2.1 x.1.2.2.1 x.1.2.2.2.1 x.1.2.2.2.2.1 x.2.1
noncomputable def a140:Nat→Option LoopAnn:=fun c=>bif Nat.beq c 2 then some (.fix h140_L2 e140_L2 s140_L2) else bif Nat.beq c 0 then some (.fix h140_L0 e140_L0 s140_L0) else none
noncomputable def g140 (x0:Ta176):Option ((Bool×Unit)×Unit) :=
(fixO s140_L0 (((),((nilL Ty93),(x0.2.2.2.2.2.2.2.1,((x0.2.2.2.2.2.2.2.1.len:Int),((0:Int),()))))),(x0,()))).bind fun d8=>match d8 with | .inl y7=>some ((y7.1.1,()),()) | .inr (.inl y7)=>some ((true,()),()) | .inr (.inr e)=>nomatch e
noncomputable def c140:Ctr:={ ins:=[.v Ty202],out:=[.bool],F:=fun x=>g140 x.1 }
noncomputable def l140:List (Nat×Code):=loopsIn (Tryz.f140.body.getD .skip) 0
theorem w140_L2:LW t140 a140 l140 1 2 h140_L2 e140_L2 s140_L2:=fun x=>by kernel_rfl
theorem w140_L0:LW t140 a140 l140 0 0 h140_L0 e140_L0 s140_L0:=fun x=>by kernel_rfl
theorem o140:Holds Tryz.prog 140 c140:=fh t140 a140 Tryz.func140 [(0,lg l140 0),(2,lg l140 1)] ⟨fun x d h=>(w140_L0 x).trans h,fun x d h=>(w140_L2 x).trans h,trivial⟩ (tc o228 (tc o229 (tc o230 (tc o136 (tc o231 (tc o232_233 (tc o235 tn)))))))
noncomputable def t142:Tbl:=[(136,[],c136)]
noncomputable def g142 (x0:Int) (x1:Int):Option ((Bool×Unit)×Unit) :=
some (((!(f136 x0 (0:Int) (wI (x1 - (1:Int))))),()),())
noncomputable def f142 (x0:Int) (x1:Int):Bool :=
(!(f136 x0 (0:Int) (wI (x1 - (1:Int)))))
theorem n142 (x0:Int) (x1:Int):g142 x0 x1 = some ((f142 x0 x1,()),()):=by simp only [g142,f142,pull1]
noncomputable def c142:Ctr:={ ins:=[.v (.int .i64),.rf (.int .i64)],out:=[.bool],F:=fun x=>some ((f142 x.1 x.2.1,()),()) }
theorem o142:Holds Tryz.prog 142 c142:=f0T t142 (fun x=>g142 x.1 x.2.1) Tryz.func142 (tc o136 tn) (fun x=>n142 x.1 x.2.1)
noncomputable def t236_142:Tbl:=[(142,[],c142)]
abbrev h236_142_L0:Shape:={ slots:=[(0,.v (.sl (.int .i64))),(1,.clo 142 [(.int .i64)]),(7,.v (.int .i64)),(8,.v (.int .i64))],boxes:=[] }
abbrev e236_142_L0:List (XT×Shape):=[(.ret,{ slots:=[(4,.v (.int .i64))],boxes:=[] }),(.exit 0,{ slots:=[],boxes:=[] })]
noncomputable def q236_142_L0 (t0:(L Int)) (t1:(Int×Unit)) (t7:Int) (t8:Int):Option ((((L Int)×Ta23)×Unit)⊕(((Int×Unit)×Unit)⊕((Unit×Unit)⊕Empty))) :=
bif (decide (t8 < t7)) then bif (decide (0≤t8)&&decide (t8 < (t0.len:Int))) then bif (f142 (L.get t0 t8.toNat) t1.1) then some (.inr (.inl ((t8,()),()))) else some (.inl ((t0,(t1,(t7,((wI (t8 + (1:Int))),())))),())) else none else some (.inr (.inr (.inl ((),()))))
noncomputable def s236_142_L0 (x:(((L Int)×Ta23)×Unit)):=q236_142_L0 x.1.1 x.1.2.1 x.1.2.2.1 x.1.2.2.2.1
noncomputable def a236_142:Nat→Option LoopAnn:=fun c=>bif Nat.beq c 0 then some (.fix h236_142_L0 e236_142_L0 s236_142_L0) else none
noncomputable def g236_142 (x0:(L Int)) (x1:(Int×Unit)):Option ((Int×Unit)×Unit) :=
(fixO s236_142_L0 ((x0,(x1,((x0.len:Int),((0:Int),())))),())).bind fun d2=>match d2 with | .inl y1=>some ((y1.1.1,()),()) | .inr (.inl y1)=>some (((-1:Int),()),()) | .inr (.inr e)=>nomatch e
noncomputable def c236_142:Ctr:={ ins:=[.v (.sl (.int .i64)),.clo 142 [(.int .i64)]],out:=[(.int .i64)],F:=fun x=>g236_142 x.1 x.2.1 }
noncomputable def l236_142:List (Nat×Code):=loopsIn (Tryz.f236.body.getD .skip) 0
theorem w236_142_L0:LW t236_142 a236_142 l236_142 0 0 h236_142_L0 e236_142_L0 s236_142_L0:=fun x=>by kernel_rfl
theorem o236_142:Holds Tryz.prog 236 c236_142:=fh t236_142 a236_142 Tryz.func236 [(0,lg l236_142 0)] ⟨fun x d h=>(w236_142_L0 x).trans h,trivial⟩ (tc o142 tn)
noncomputable def t141_142:Tbl:=[(236,[142],c236_142)]
noncomputable def g141_142 (x0:(L Int)) (x1:(Int×Unit)):Option ((Bool×Unit)×Unit) :=
(g236_142 x0 x1).bind fun y1=>some (((decide (y1.1.1 ≥ (0:Int))),()),())
noncomputable def c141_142:Ctr:={ ins:=[.v (.sl (.int .i64)),.clo 142 [(.int .i64)]],out:=[.bool],F:=fun x=>g141_142 x.1 x.2.1 }
theorem o141_142:Holds Tryz.prog 141 c141_142:=f0 t141_142 Tryz.func141 (tc o236_142 tn)
noncomputable def t145:Tbl:=[(136,[],c136)]
noncomputable def g145 (x0:Ta17):Option ((Bool×Unit)×Unit) :=
bif (!(f136 x0.2.1 (0:Int) (5:Int))) then some ((false,()),()) else bif (!(f136 x0.2.2.1 (0:Int) (5:Int))) then some ((false,()),()) else bif (x0.2.1 == x0.2.2.1) then some ((false,()),()) else bif (x0.1 == (0:Int)) then bif (x0.2.2.2.1 == (0:Int)) then some ((true,()),()) else bif (x0.1 == (1:Int)) then some (((f136 x0.2.2.2.1 (1:Int) (8:Int)),()),()) else some ((false,()),()) else bif (x0.1 == (1:Int)) then some (((f136 x0.2.2.2.1 (1:Int) (8:Int)),()),()) else some ((false,()),())
noncomputable def f145 (x0:Ta17):Bool :=
bif (!(f136 x0.2.1 (0:Int) (5:Int))) then false else bif (!(f136 x0.2.2.1 (0:Int) (5:Int))) then false else bif (x0.2.1 == x0.2.2.1) then false else bif (x0.1 == (0:Int)) then bif (x0.2.2.2.1 == (0:Int)) then true else bif (x0.1 == (1:Int)) then (f136 x0.2.2.2.1 (1:Int) (8:Int)) else false else bif (x0.1 == (1:Int)) then (f136 x0.2.2.2.1 (1:Int) (8:Int)) else false
theorem n145 (x0:Ta17):g145 x0 = some ((f145 x0,()),()):=by simp only [g145,f145,pull1]
noncomputable def c145:Ctr:={ ins:=[.v Ty116],out:=[.bool],F:=fun x=>some ((f145 x.1,()),()) }
theorem o145:Holds Tryz.prog 145 c145:=f0T t145 (fun x=>g145 x.1) Tryz.func145 (tc o136 tn) (fun x=>n145 x.1)
noncomputable def t144:Tbl:=[(145,[],c145)]
noncomputable def g144 (x0:Ta17) (x1:Int):Option ((Bool×Unit)×Unit) :=
bif (!(f145 x0)) then some ((true,()),()) else bif (decide (x0.2.1 ≥ x1)) then some ((true,()),()) else some (((decide (x0.2.2.1 ≥ x1)),()),())
noncomputable def f144 (x0:Ta17) (x1:Int):Bool :=
bif (!(f145 x0)) then true else bif (decide (x0.2.1 ≥ x1)) then true else (decide (x0.2.2.1 ≥ x1))
theorem n144 (x0:Ta17) (x1:Int):g144 x0 x1 = some ((f144 x0 x1,()),()):=by simp only [g144,f144,pull1]
noncomputable def c144:Ctr:={ ins:=[.v Ty116,.rf (.int .i64)],out:=[.bool],F:=fun x=>some ((f144 x.1 x.2.1,()),()) }
theorem o144:Holds Tryz.prog 144 c144:=f0T t144 (fun x=>g144 x.1 x.2.1) Tryz.func144 (tc o145 tn) (fun x=>n144 x.1 x.2.1)
noncomputable def t237_144:Tbl:=[(144,[],c144)]
abbrev h237_144_L0:Shape:={ slots:=[(0,.v Ty118),(1,.clo 144 [(.int .i64)]),(7,.v (.int .i64)),(8,.v (.int .i64))],boxes:=[] }
abbrev e237_144_L0:List (XT×Shape):=[(.ret,{ slots:=[(4,.v (.int .i64))],boxes:=[] }),(.exit 0,{ slots:=[],boxes:=[] })]
noncomputable def q237_144_L0 (t0:Ta32) (t1:(Int×Unit)) (t7:Int) (t8:Int):Option (((Ta32×Ta23)×Unit)⊕(((Int×Unit)×Unit)⊕((Unit×Unit)⊕Empty))) :=
bif (decide (t8 < t7)) then bif (decide (0≤t8)&&decide (t8 < (t0.len:Int))) then bif (f144 (L.get t0 t8.toNat) t1.1) then some (.inr (.inl ((t8,()),()))) else some (.inl ((t0,(t1,(t7,((wI (t8 + (1:Int))),())))),())) else none else some (.inr (.inr (.inl ((),()))))
noncomputable def s237_144_L0 (x:((Ta32×Ta23)×Unit)):=q237_144_L0 x.1.1 x.1.2.1 x.1.2.2.1 x.1.2.2.2.1
noncomputable def a237_144:Nat→Option LoopAnn:=fun c=>bif Nat.beq c 0 then some (.fix h237_144_L0 e237_144_L0 s237_144_L0) else none
noncomputable def g237_144 (x0:Ta32) (x1:(Int×Unit)):Option ((Int×Unit)×Unit) :=
(fixO s237_144_L0 ((x0,(x1,((x0.len:Int),((0:Int),())))),())).bind fun d2=>match d2 with | .inl y1=>some ((y1.1.1,()),()) | .inr (.inl y1)=>some (((-1:Int),()),()) | .inr (.inr e)=>nomatch e
noncomputable def c237_144:Ctr:={ ins:=[.v Ty118,.clo 144 [(.int .i64)]],out:=[(.int .i64)],F:=fun x=>g237_144 x.1 x.2.1 }
noncomputable def l237_144:List (Nat×Code):=loopsIn (Tryz.f237.body.getD .skip) 0
theorem w237_144_L0:LW t237_144 a237_144 l237_144 0 0 h237_144_L0 e237_144_L0 s237_144_L0:=fun x=>by kernel_rfl
theorem o237_144:Holds Tryz.prog 237 c237_144:=fh t237_144 a237_144 Tryz.func237 [(0,lg l237_144 0)] ⟨fun x d h=>(w237_144_L0 x).trans h,trivial⟩ (tc o144 tn)
noncomputable def t143_144:Tbl:=[(237,[144],c237_144)]
noncomputable def g143_144 (x0:Ta32) (x1:(Int×Unit)):Option ((Bool×Unit)×Unit) :=
(g237_144 x0 x1).bind fun y1=>some (((decide (y1.1.1 ≥ (0:Int))),()),())
noncomputable def c143_144:Ctr:={ ins:=[.v Ty118,.clo 144 [(.int .i64)]],out:=[.bool],F:=fun x=>g143_144 x.1 x.2.1 }
theorem o143_144:Holds Tryz.prog 143 c143_144:=f0 t143_144 Tryz.func143 (tc o237_144 tn)
noncomputable def t238:Tbl:=[]
noncomputable def g238 (x0:Ta17):Option ((Int×Unit)×Unit) :=
some (((if x0.2.2.2.1 > (1:Int) then x0.2.2.2.1 else (1:Int)),()),())
noncomputable def f238 (x0:Ta17):Int :=
(if x0.2.2.2.1 > (1:Int) then x0.2.2.2.1 else (1:Int))
theorem n238 (x0:Ta17):g238 x0 = some ((f238 x0,()),()):=by simp only [g238,f238,pull1]
noncomputable def c238:Ctr:={ ins:=[.v Ty116],out:=[(.int .i64)],F:=fun x=>some ((f238 x.1,()),()) }
theorem o238:Holds Tryz.prog 238 c238:=f0T t238 (fun x=>g238 x.1) Tryz.func238 tn (fun x=>n238 x.1)
noncomputable def t146:Tbl:=[(238,[],c238)]
abbrev h146_L0:Shape:={ slots:=[(3,.bx 3 0),(7,.v (.int .i64)),(22,.v Ty118),(23,.v (.int .i64)),(24,.v (.int .i64))],boxes:=[(3,.typ Ty144)] }
abbrev e146_L0:List (XT×Shape):=[(.exit 0,{ slots:=[(7,.v (.int .i64))],boxes:=[] })]
noncomputable def q146_L0 (t7:Int) (t22:Ta32) (t23:Int) (t24:Int) (b3:Ta64):Option (((Unit×(Int×(Ta32×(Int×(Int×Unit)))))×Ta78)⊕(((Int×Unit)×Unit)⊕Empty)) :=
bif (decide (t24 < t23)) then bif (decide (0≤t24)&&decide (t24 < (t22.len:Int))) then some (.inl (((),((wI (t7 + (wI (b3.1 * (f238 (L.get t22 t24.toNat)))))),(t22,(t23,((wI (t24 + (1:Int))),()))))),(b3,()))) else none else some (.inr (.inl ((t7,()),())))
noncomputable def s146_L0 (x:((Unit×(Int×(Ta32×(Int×(Int×Unit)))))×Ta78)):=q146_L0 x.1.2.1 x.1.2.2.1 x.1.2.2.2.1 x.1.2.2.2.2.1 x.2.1
noncomputable def a146:Nat→Option LoopAnn:=fun c=>bif Nat.beq c 0 then some (.fix h146_L0 e146_L0 s146_L0) else none
noncomputable def g146 (x0:Ta64) (x1:(Int×(Int×(Int×Unit)))) (x2:Ta32):Option ((Int×Unit)×Unit) :=
(fixO s146_L0 (((),((wI ((wI ((16:Int) * x0.1)) + (wI ((wI (x1.1 * x1.2.1)) * x0.2.2.2.2.2.2.1)))),(x2,((x2.len:Int),((0:Int),()))))),(x0,()))).bind fun d2=>match d2 with | .inl y1=>some ((y1.1.1,()),()) | .inr e=>nomatch e
noncomputable def c146:Ctr:={ ins:=[.v Ty144,.v Ty93,.v Ty118],out:=[(.int .i64)],F:=fun x=>g146 x.1 x.2.1 x.2.2.1 }
noncomputable def l146:List (Nat×Code):=loopsIn (Tryz.f146.body.getD .skip) 0
theorem w146_L0:LW t146 a146 l146 0 0 h146_L0 e146_L0 s146_L0:=fun x=>by kernel_rfl
theorem o146:Holds Tryz.prog 146 c146:=fh t146 a146 Tryz.func146 [(0,lg l146 0)] ⟨fun x d h=>(w146_L0 x).trans h,trivial⟩ (tc o238 tn)
noncomputable def t239:Tbl:=[]
noncomputable def g239 (x0:Ta176) (x1:(Int×(Int×(Int×Unit)))) (x2:Int):Option ((Bool×Unit)×Unit) :=
bif (decide (x1.2.2.1 > (wI (x0.2.2.2.2.1 + x0.2.2.2.2.2.1)))) then bif (decide (x1.2.2.1≤x0.2.2.2.2.2.2.1)) then bif (decide (x1.2.1 ≥ x2)) then some (((decide (x1.2.1≤(wI (x0.2.2.2.2.2.2.1 - x1.2.2.1)))),()),()) else some ((false,()),()) else some ((false,()),()) else some ((false,()),())
noncomputable def f239 (x0:Ta176) (x1:(Int×(Int×(Int×Unit)))) (x2:Int):Bool :=
bif (decide (x1.2.2.1 > (wI (x0.2.2.2.2.1 + x0.2.2.2.2.2.1)))) then bif (decide (x1.2.2.1≤x0.2.2.2.2.2.2.1)) then bif (decide (x1.2.1 ≥ x2)) then (decide (x1.2.1≤(wI (x0.2.2.2.2.2.2.1 - x1.2.2.1)))) else false else false else false
theorem n239 (x0:Ta176) (x1:(Int×(Int×(Int×Unit)))) (x2:Int):g239 x0 x1 x2 = some ((f239 x0 x1 x2,()),()):=by simp only [g239,f239,pull1]
noncomputable def c239:Ctr:={ ins:=[.v Ty202,.v Ty93,.v (.int .i64)],out:=[.bool],F:=fun x=>some ((f239 x.1 x.2.1 x.2.2.1,()),()) }
theorem o239:Holds Tryz.prog 239 c239:=f0T t239 (fun x=>g239 x.1 x.2.1 x.2.2.1) Tryz.func239 tn (fun x=>n239 x.1 x.2.1 x.2.2.1)
noncomputable def t147:Tbl:=[(136,[],c136),(239,[],c239)]
abbrev h147_L0:Shape:={ slots:=[(1,.bx 1 0),(3,.v (.int .i64)),(7,.v Ty99),(8,.v (.int .i64)),(9,.v (.int .i64))],boxes:=[(1,.typ Ty202)] }
abbrev e147_L0:List (XT×Shape):=[(.ret,{ slots:=[(2,.v .bool)],boxes:=[] }),(.exit 0,{ slots:=[(1,.bx 1 0)],boxes:=[(1,.typ Ty202)] })]
noncomputable def q147_L0 (t3:Int) (t7:Ta13) (t8:Int) (t9:Int) (b1:Ta176):Option (((Unit×Ta74)×Ta178)⊕(((Bool×Unit)×Unit)⊕(Ta179⊕Empty))) :=
bif (decide (t9 < t8)) then bif (decide (0≤t9)&&decide (t9 < (t7.len:Int))) then bif (!(f136 (L.get t7 t9.toNat).1 (0:Int) (wI ((b1.2.2.2.2.2.2.2.1.len:Int) - (1:Int))))) then some (.inr (.inl ((false,()),()))) else bif (!(f239 b1 (L.get t7 t9.toNat) t3)) then some (.inr (.inl ((false,()),()))) else some (.inl (((),((wI ((L.get t7 t9.toNat).2.1 + (L.get t7 t9.toNat).2.2.1)),(t7,(t8,((wI (t9 + (1:Int))),()))))),(b1,()))) else none else some (.inr (.inr (.inl (((),()),(b1,())))))
noncomputable def s147_L0 (x:((Unit×Ta74)×Ta178)):=q147_L0 x.1.2.1 x.1.2.2.1 x.1.2.2.2.1 x.1.2.2.2.2.1 x.2.1
noncomputable def a147:Nat→Option LoopAnn:=fun c=>bif Nat.beq c 0 then some (.fix h147_L0 e147_L0 s147_L0) else none
noncomputable def g147 (x0:Ta176):Option ((Bool×Unit)×Unit) :=
(fixO s147_L0 (((),((0:Int),(x0.2.2.2.2.2.2.2.2.2.2.1,((x0.2.2.2.2.2.2.2.2.2.2.1.len:Int),((0:Int),()))))),(x0,()))).bind fun d2=>match d2 with | .inl y1=>some ((y1.1.1,()),()) | .inr (.inl y1)=>some (((f136 (y1.2.1.2.2.2.2.2.2.2.2.2.2.1.len:Int) (1:Int) (16:Int)),()),()) | .inr (.inr e)=>nomatch e
noncomputable def c147:Ctr:={ ins:=[.v Ty202],out:=[.bool],F:=fun x=>g147 x.1 }
noncomputable def l147:List (Nat×Code):=loopsIn (Tryz.f147.body.getD .skip) 0
theorem w147_L0:LW t147 a147 l147 0 0 h147_L0 e147_L0 s147_L0:=fun x=>by kernel_rfl
theorem o147:Holds Tryz.prog 147 c147:=fh t147 a147 Tryz.func147 [(0,lg l147 0)] ⟨fun x d h=>(w147_L0 x).trans h,trivial⟩ (tc o136 (tc o239 tn))
noncomputable def t54:Tbl:=[(134,[],c134),(135,[],c135),(136,[],c136),(137,[],c137),(138,[],c138),(139,[],c139),(140,[],c140),(141,[142],c141_142),(143,[144],c143_144),(146,[],c146),(147,[],c147)]
noncomputable def g54 (x0:Ta176):Option ((Bool×Unit)×Unit) :=
bif (!(f134 x0.1)) then some ((false,()),()) else bif (!(f135 x0.2.1)) then some ((false,()),()) else bif (!(f136 x0.2.2.1 (1:Int) (8:Int))) then some ((false,()),()) else bif (!(f137 x0.2.2.2.1)) then some ((false,()),()) else bif (!(f138 x0.2.2.2.2.1)) then some ((false,()),()) else bif (!(f138 x0.2.2.2.2.2.1)) then some ((false,()),()) else bif (!(f138 x0.2.2.2.2.2.2.1)) then some ((false,()),()) else (g139 x0.2.2.2.1).bind fun y1=>bif (decide (x0.2.2.2.2.2.1 < y1.1.1)) then some ((false,()),()) else bif (!(f136 (x0.2.2.2.2.2.2.2.1.len:Int) (1:Int) (6:Int))) then some ((false,()),()) else (g140 x0).bind fun y2=>bif (!y2.1.1) then some ((false,()),()) else bif (decide ((x0.2.2.2.2.2.2.2.2.1.len:Int) > (8:Int))) then some ((false,()),()) else (g141_142 x0.2.2.2.2.2.2.2.2.1 ((x0.2.2.2.2.2.2.2.1.len:Int),())).bind fun y3=>bif y3.1.1 then some ((false,()),()) else bif (decide ((x0.2.2.2.2.2.2.2.2.2.1.len:Int) > (8:Int))) then some ((false,()),()) else (g143_144 x0.2.2.2.2.2.2.2.2.2.1 ((x0.2.2.2.2.2.2.2.1.len:Int),())).bind fun y4=>bif y4.1.1 then some ((false,()),()) else (g146 x0.2.2.2.1 x0.2.1 x0.2.2.2.2.2.2.2.2.2.1).bind fun y5=>bif (decide (x0.2.2.2.2.1 < y5.1.1)) then some ((false,()),()) else (g147 x0).bind fun y6=>some ((y6.1.1,()),())
noncomputable def c54:Ctr:={ ins:=[.v Ty202],out:=[.bool],F:=fun x=>g54 x.1 }
theorem o54:Holds Tryz.prog 54 c54:=f0 t54 Tryz.func54 (tc o134 (tc o135 (tc o136 (tc o137 (tc o138 (tc o139 (tc o140 (tc o141_142 (tc o143_144 (tc o146 (tc o147 tn)))))))))))
noncomputable def t55:Tbl:=[(136,[],c136)]
abbrev h55_L0:Shape:={ slots:=[(2,.v (.sl (.sl (.int .u8)))),(33,.v Ty99),(34,.v (.int .i64)),(35,.v (.int .i64))],boxes:=[] }
abbrev e55_L0:List (XT×Shape):=[(.ret,{ slots:=[(6,.v .bool)],boxes:=[] }),(.exit 0,{ slots:=[],boxes:=[] })]
noncomputable def q55_L0 (t2:(L (L Int))) (t33:Ta13) (t34:Int) (t35:Int):Option ((((L (L Int))×Ta63)×Unit)⊕(((Bool×Unit)×Unit)⊕((Unit×Unit)⊕Empty))) :=
bif (decide (t35 < t34)) then bif (decide (0≤t35)&&decide (t35 < (t33.len:Int))) then bif (decide (0≤t35)&&decide (t35 < (t2.len:Int))) then bif (((L.get t2 t35.toNat).len:Int) != (L.get t33 t35.toNat).2.1) then some (.inr (.inl ((false,()),()))) else some (.inl ((t2,(t33,(t34,((wI (t35 + (1:Int))),())))),())) else none else none else some (.inr (.inr (.inl ((),()))))
noncomputable def s55_L0 (x:(((L (L Int))×Ta63)×Unit)):=q55_L0 x.1.1 x.1.2.1 x.1.2.2.1 x.1.2.2.2.1
noncomputable def a55:Nat→Option LoopAnn:=fun c=>bif Nat.beq c 0 then some (.fix h55_L0 e55_L0 s55_L0) else none
noncomputable def g55 (x0:Ta176) (x1:Int) (x2:(L (L Int))):Option ((Bool×Unit)×Unit) :=
bif (!(f136 x1 (0:Int) (wI ((x0.2.2.2.2.2.2.2.1.len:Int) - (1:Int))))) then some ((false,()),()) else bif (decide (0≤x1)&&decide (x1 < (x0.2.2.2.2.2.2.2.1.len:Int))) then bif ((x2.len:Int) != ((L.get x0.2.2.2.2.2.2.2.1 x1.toNat).2.2.2.1.len:Int)) then some ((false,()),()) else bif (decide (0≤x1)&&decide (x1 < (x0.2.2.2.2.2.2.2.1.len:Int))) then ((fixO s55_L0 ((x2,((L.get x0.2.2.2.2.2.2.2.1 x1.toNat).2.2.2.1,(((L.get x0.2.2.2.2.2.2.2.1 x1.toNat).2.2.2.1.len:Int),((0:Int),())))),())).bind fun d2=>match d2 with | .inl y1=>some ((y1.1.1,()),()) | .inr (.inl y1)=>some ((true,()),()) | .inr (.inr e)=>nomatch e) else none else none
noncomputable def c55:Ctr:={ ins:=[.v Ty202,.v (.int .i64),.v (.sl (.sl (.int .u8)))],out:=[.bool],F:=fun x=>g55 x.1 x.2.1 x.2.2.1 }
noncomputable def l55:List (Nat×Code):=loopsIn (Tryz.f55.body.getD .skip) 0
theorem w55_L0:LW t55 a55 l55 0 0 h55_L0 e55_L0 s55_L0:=fun x=>by kernel_rfl
theorem o55:Holds Tryz.prog 55 c55:=fh t55 a55 Tryz.func55 [(0,lg l55 0)] ⟨fun x d h=>(w55_L0 x).trans h,trivial⟩ (tc o136 tn)
noncomputable def t240r:Tbl:=[]
abbrev h240r_L0:Shape:={ slots:=[(4,.bx 4 0),(5,.bx 5 0),(12,.v Ty99),(13,.v (.int .i64)),(14,.v (.int .i64))],boxes:=[(4,.cells [.row (.int .u32) 60256,.v (.int .u32),.row (.sl (.int .u8)) 60258]),(5,.cells [.ms 8,.v (.int .u32),.row (.sl (.int .u8)) 60322]),(8,.row (.int .u32))] }
abbrev e240r_L0:List (XT×Shape):=[(.exit 0,{ slots:=[(4,.bx 4 0),(5,.bx 5 0)],boxes:=[(4,.cells [.ms 60256,.v (.int .u32),.ms 60258]),(5,.cells [.ms 8,.v (.int .u32),.ms 60322]),(60256,.row (.int .u32)),(60258,.row (.sl (.int .u8))),(8,.row (.int .u32)),(60322,.row (.sl (.int .u8)))] })]
noncomputable def q240r_L0 (t12:Ta13) (t13:Int) (t14:Int) (b4_0:(L Int)) (b4_1:Int) (b4_2:(L (L Int))) (b5_1:Int) (b5_2:(L (L Int))) (r8:(L Int)):Option (((Unit×(Unit×Ta63))×(Ta39×((Unit×Ta1)×((L Int)×Unit))))⊕(((Unit×(Unit×Unit))×(Ta2×(Ta2×((L Int)×((L (L Int))×Ta18)))))⊕Empty)) :=
bif (decide (t14 < t13)) then bif (decide (0≤t14)&&decide (t14 < (t12.len:Int))) then bif (decide ((L.get t12 t14.toNat).2.1 = (L.get t12 t14.toNat).2.1)&&(decide (0≤(L.get t12 t14.toNat).2.1)&&(decide ((L.get t12 t14.toNat).2.1≤2 ^ 40)&&decide (1 * (L.get t12 t14.toNat).2.1≤2 ^ 48)))) then bif (decide (b5_2.len + (L.of (Ty.zero (.sl (.int .u8))) [(L.rep (L.get t12 t14.toNat).2.1.toNat (Ty.zero (.int .u8)))]).len≤most)) then some (.inl (((),((),(t12,(t13,((wI (t14 + (1:Int))),()))))),((b4_0,(b4_1,(b4_2,()))),(((),(b5_1,((L.app b5_2 (L.of (Ty.zero (.sl (.int .u8))) [(L.rep (L.get t12 t14.toNat).2.1.toNat (Ty.zero (.int .u8)))])),()))),(r8,()))))) else none else none else none else some (.inr (.inl (((),((),())),(((),(b4_1,((),()))),(((),(b5_1,((),()))),(b4_0,(b4_2,(r8,(b5_2,())))))))))
noncomputable def s240r_L0 (x:((Unit×(Unit×Ta63))×(Ta39×((Unit×Ta1)×((L Int)×Unit))))):=q240r_L0 x.1.2.2.1 x.1.2.2.2.1 x.1.2.2.2.2.1 x.2.1.1 x.2.1.2.1 x.2.1.2.2.1 x.2.2.1.2.1 x.2.2.1.2.2.1 x.2.2.2.1
noncomputable def a240r:Nat→Option LoopAnn:=fun c=>bif Nat.beq c 0 then some (.fix h240r_L0 e240r_L0 s240r_L0) else none
noncomputable def g240r (x0:Ta13) (x1:Int):Option Ta68 :=
(fixO s240r_L0 (((),((),(x0,((x0.len:Int),((0:Int),()))))),(((nilL (.int .u32)),((0:Int),((nilL (.sl (.int .u8))),()))),(((),((IntKind.wrap .u32 (x1)),((nilL (.sl (.int .u8))),()))),((L.rep (16:Int).toNat (Ty.zero (.int .u32))),()))))).bind fun d2=>match d2 with | .inl y1=>some (((y1.2.2.2.2.2.1,(y1.2.2.1.2.1,y1.2.2.2.2.2.2)),()),()) | .inr e=>nomatch e
noncomputable def c240r:Ctr:={ ins:=[.v Ty99,.v (.int .i64)],out:=[Ty112],F:=fun x=>g240r x.1 x.2.1,fr:=1 }
noncomputable def l240r:List (Nat×Code):=loopsIn (Tryz.f240.body.getD .skip) 0
theorem w240r_L0:LW t240r a240r l240r 0 0 h240r_L0 e240r_L0 s240r_L0:=fun x=>by kernel_rfl
theorem o240r:Holds Tryz.prog 240 c240r:=fh t240r a240r Tryz.func240 [(0,lg l240r 0)] ⟨fun x d h=>(w240r_L0 x).trans h,trivial⟩ tn
noncomputable def t241r:Tbl:=[]
noncomputable def g241r (x0:(L Int)):Option (((L Int)×Unit)×Unit) :=
bif x0.nil then some (((nilL (.int .u8)),()),()) else bif (decide ((L.of (Ty.zero (.int .u8)) []).len + x0.len≤most)) then some (((L.app (L.of (Ty.zero (.int .u8)) []) x0),()),()) else none
noncomputable def c241r:Ctr:={ ins:=[.v (.sl (.int .u8))],out:=[(.sl (.int .u8))],F:=fun x=>g241r x.1,fr:=1 }
theorem o241r:Holds Tryz.prog 241 c241r:=f0 t241r Tryz.func241 tn
noncomputable def t150r:Tbl:=[(241,[],c241r)]
abbrev h150r_L0:Shape:={ slots:=[(3,.row (.sl (.int .u8)) 50003),(6,.v (.sl (.sl (.int .u8)))),(7,.v (.int .i64)),(8,.v (.int .i64))],boxes:=[] }
abbrev e150r_L0:List (XT×Shape):=[(.exit 0,{ slots:=[(3,.ms 50003)],boxes:=[(50003,.row (.sl (.int .u8)))] })]
noncomputable def q150r_L0 (t3:(L (L Int))) (t6:(L (L Int))) (t7:Int) (t8:Int):Option ((((L (L Int))×Ta24)×Unit)⊕(Ta33⊕Empty)) :=
bif (decide (t8 < t7)) then bif (decide (0≤t8)&&decide (t8 < (t6.len:Int))) then (g241r (L.get t6 t8.toNat)).bind fun y1=>bif (decide (t3.len + (L.of (Ty.zero (.sl (.int .u8))) [y1.1.1]).len≤most)) then some (.inl (((L.app t3 (L.of (Ty.zero (.sl (.int .u8))) [y1.1.1])),(t6,(t7,((wI (t8 + (1:Int))),())))),())) else none else none else some (.inr (.inl (((),()),(t3,()))))
noncomputable def s150r_L0 (x:(((L (L Int))×Ta24)×Unit)):=q150r_L0 x.1.1 x.1.2.1 x.1.2.2.1 x.1.2.2.2.1
noncomputable def a150r:Nat→Option LoopAnn:=fun c=>bif Nat.beq c 0 then some (.fix h150r_L0 e150r_L0 s150r_L0) else none
noncomputable def g150r (x0:(L (L Int))):Option Ta7 :=
(fixO s150r_L0 (((nilL (.sl (.int .u8))),(x0,((x0.len:Int),((0:Int),())))),())).bind fun d3=>match d3 with | .inl y2=>some ((y2.2.1,()),()) | .inr e=>nomatch e
noncomputable def c150r:Ctr:={ ins:=[.v (.sl (.sl (.int .u8)))],out:=[(.sl (.sl (.int .u8)))],F:=fun x=>g150r x.1,fr:=1 }
noncomputable def l150r:List (Nat×Code):=loopsIn (Tryz.f150.body.getD .skip) 0
theorem w150r_L0:LW t150r a150r l150r 0 0 h150r_L0 e150r_L0 s150r_L0:=fun x=>by kernel_rfl
theorem o150r:Holds Tryz.prog 150 c150r:=fh t150r a150r Tryz.func150 [(0,lg l150r 0)] ⟨fun x d h=>(w150r_L0 x).trans h,trivial⟩ (tc o241r tn)
noncomputable def t148r:Tbl:=[(240,[],c240r),(150,[],c150r)]
noncomputable def g148r (x0:Ta176) (x1:Int) (x2:(L (L Int))):Option Ta68 :=
bif (decide (0≤x1)&&decide (x1 < (x0.2.2.2.2.2.2.2.1.len:Int))) then (g240r (nilL Ty93) (L.get x0.2.2.2.2.2.2.2.1 x1.toNat).2.1).bind fun y1=>(g150r x2).bind fun y2=>some (((y1.1.1.1,(y1.1.1.2.1,y2.1)),()),()) else none
noncomputable def c148r:Ctr:={ ins:=[.v Ty202,.v (.int .i64),.v (.sl (.sl (.int .u8)))],out:=[Ty112],F:=fun x=>g148r x.1 x.2.1 x.2.2.1,fr:=1 }
theorem o148r:Holds Tryz.prog 148 c148r:=f0 t148r Tryz.func148 (tc o240r (tc o150r tn))
noncomputable def t149r:Tbl:=[]
noncomputable def g149r (x0:(Int×(Int×(Int×Unit)))):Option (Ta92×Unit) :=
bif (decide (x0.1 = x0.1)&&(decide (0≤x0.1)&&(decide (x0.1≤2 ^ 40)&&decide (24 * x0.1≤2 ^ 48)))) then some (((x0,((L.rep x0.1.toNat (Ty.zero Ty60)),())),()),()) else none
noncomputable def c149r:Ctr:={ ins:=[.v Ty93],out:=[Ty142],F:=fun x=>g149r x.1,fr:=1 }
theorem o149r:Holds Tryz.prog 149 c149r:=f0 t149r Tryz.func149 tn
noncomputable def t56r:Tbl:=[(148,[],c148r),(149,[],c149r),(150,[],c150r)]
noncomputable def g56r (x0:Ta176) (x1:Int) (x2:(L (L Int))):Option (Ta188×Unit) :=
(g148r x0 x1 x2).bind fun y1=>(g149r x0.2.1).bind fun y2=>(g150r x2).bind fun y3=>bif (decide ((x0.2.2.2.2.2.2.2.2.2.1.len:Int) = (x0.2.2.2.2.2.2.2.2.2.1.len:Int))&&(decide (0≤(x0.2.2.2.2.2.2.2.2.2.1.len:Int))&&(decide ((x0.2.2.2.2.2.2.2.2.2.1.len:Int)≤2 ^ 40)&&decide (32 * (x0.2.2.2.2.2.2.2.2.2.1.len:Int)≤2 ^ 48)))) then bif (decide ((x0.2.2.2.2.2.2.2.2.2.1.len:Int) = (x0.2.2.2.2.2.2.2.2.2.1.len:Int))&&(decide (0≤(x0.2.2.2.2.2.2.2.2.2.1.len:Int))&&(decide ((x0.2.2.2.2.2.2.2.2.2.1.len:Int)≤2 ^ 40)&&decide (24 * (x0.2.2.2.2.2.2.2.2.2.1.len:Int)≤2 ^ 48)))) then bif (decide ((x0.2.2.2.2.2.2.2.2.1.len:Int) = (x0.2.2.2.2.2.2.2.2.1.len:Int))&&(decide (0≤(x0.2.2.2.2.2.2.2.2.1.len:Int))&&(decide ((x0.2.2.2.2.2.2.2.2.1.len:Int)≤2 ^ 40)&&decide (48 * (x0.2.2.2.2.2.2.2.2.1.len:Int)≤2 ^ 48)))) then some ((((y1.1.1.1,(y1.1.1.2.1,y1.1.1.2.2)),((false,((0:Int),((0:Int),((0:Int),((0:Int),(false,(false,((0:Int),())))))))),(((0:Int),((0:Int),((0:Int),(false,())))),(y2.1.1,((x0.2.2.1,((nilL (.int .i64)),())),((0:Int),(true,(y3.1.1,((L.rep (x0.2.2.2.2.2.2.2.2.2.1.len:Int).toNat (Ty.zero Ty71)),((L.rep (x0.2.2.2.2.2.2.2.2.2.1.len:Int).toNat (Ty.zero Ty27)),((L.rep (x0.2.2.2.2.2.2.2.2.1.len:Int).toNat (Ty.zero Ty84)),()))))))))))),()),()) else none else none else none
noncomputable def c56r:Ctr:={ ins:=[.v Ty202,.v (.int .i64),.v (.sl (.sl (.int .u8)))],out:=[Ty203],F:=fun x=>g56r x.1 x.2.1 x.2.2.1,fr:=1 }
theorem o56r:Holds Tryz.prog 56 c56r:=f0 t56r Tryz.func56 (tc o148r (tc o149r (tc o150r tn)))
noncomputable def t14r:Tbl:=[(54,[],c54),(55,[],c55),(56,[],c56r)]
noncomputable def g14r (x0:Ta176) (x1:Int) (x2:(L (L Int))):Option ((Ta187×(Bool×Unit))×Unit) :=
(g54 x0).bind fun y1=>bif (!y1.1.1) then some (((((nilL (.int .u32)),((0:Int),((nilL (.sl (.int .u8))),()))),((false,((0:Int),((0:Int),((0:Int),((0:Int),(false,(false,((0:Int),())))))))),(((0:Int),((0:Int),((0:Int),(false,())))),((((0:Int),((0:Int),((0:Int),()))),((nilL Ty60),())),(((0:Int),((nilL (.int .i64)),())),((0:Int),(false,((nilL (.sl (.int .u8))),((nilL Ty71),((nilL Ty27),((nilL Ty84),()))))))))))),false,()),()) else (g55 x0 x1 x2).bind fun y2=>bif (!y2.1.1) then some (((((nilL (.int .u32)),((0:Int),((nilL (.sl (.int .u8))),()))),((false,((0:Int),((0:Int),((0:Int),((0:Int),(false,(false,((0:Int),())))))))),(((0:Int),((0:Int),((0:Int),(false,())))),((((0:Int),((0:Int),((0:Int),()))),((nilL Ty60),())),(((0:Int),((nilL (.int .i64)),())),((0:Int),(false,((nilL (.sl (.int .u8))),((nilL Ty71),((nilL Ty27),((nilL Ty84),()))))))))))),false,()),()) else (g56r x0 x1 x2).bind fun y3=>some ((((y3.1.1.1.1,(y3.1.1.1.2.1,y3.1.1.1.2.2)),(y3.1.1.2.1,(y3.1.1.2.2.1,((y3.1.1.2.2.2.1.1,y3.1.1.2.2.2.1.2),((y3.1.1.2.2.2.2.1.1,y3.1.1.2.2.2.2.1.2),(y3.1.1.2.2.2.2.2.1,(y3.1.1.2.2.2.2.2.2.1,y3.1.1.2.2.2.2.2.2.2))))))),true,()),())
noncomputable def c14r:Ctr:={ ins:=[.v Ty202,.v (.int .i64),.v (.sl (.sl (.int .u8)))],out:=[Ty203,.bool],F:=fun x=>g14r x.1 x.2.1 x.2.2.1,fr:=1 }
theorem o14r:Holds Tryz.prog 14 c14r:=f0 t14r Tryz.func14 (tc o54 (tc o55 (tc o56r tn)))
noncomputable def t151:Tbl:=[]
abbrev h151_L0:Shape:={ slots:=[(0,.v (.sl (.int .u32))),(1,.v (.sl (.int .u32))),(5,.v (.int .i64))],boxes:=[] }
abbrev e151_L0:List (XT×Shape):=[(.ret,{ slots:=[(4,.v .bool)],boxes:=[] }),(.exit 0,{ slots:=[],boxes:=[] })]
noncomputable def q151_L0 (t0:(L Int)) (t1:(L Int)) (t5:Int):Option (Ta46⊕(((Bool×Unit)×Unit)⊕((Unit×Unit)⊕Empty))) :=
bif (decide (t5 < (t0.len:Int))) then bif (decide (0≤t5)&&decide (t5 < (t0.len:Int))) then bif (decide (0≤t5)&&decide (t5 < (t1.len:Int))) then bif ((L.get t0 t5.toNat) != (L.get t1 t5.toNat)) then some (.inr (.inl ((false,()),()))) else some (.inl ((t0,(t1,((wI (t5 + (1:Int))),()))),())) else none else none else some (.inr (.inr (.inl ((),()))))
noncomputable def s151_L0 (x:Ta46):=q151_L0 x.1.1 x.1.2.1 x.1.2.2.1
noncomputable def a151:Nat→Option LoopAnn:=fun c=>bif Nat.beq c 0 then some (.fix h151_L0 e151_L0 s151_L0) else none
noncomputable def g151 (x0:(L Int)) (x1:(L Int)):Option ((Bool×Unit)×Unit) :=
bif ((x0.len:Int) != (x1.len:Int)) then some ((false,()),()) else (fixO s151_L0 ((x0,(x1,((0:Int),()))),())).bind fun d2=>match d2 with | .inl y1=>some ((y1.1.1,()),()) | .inr (.inl y1)=>some ((true,()),()) | .inr (.inr e)=>nomatch e
noncomputable def c151:Ctr:={ ins:=[.v (.sl (.int .u32)),.v (.sl (.int .u32))],out:=[.bool],F:=fun x=>g151 x.1 x.2.1 }
noncomputable def l151:List (Nat×Code):=loopsIn (Tryz.f151.body.getD .skip) 0
theorem w151_L0:LW t151 a151 l151 0 0 h151_L0 e151_L0 s151_L0:=fun x=>by kernel_rfl
theorem o151:Holds Tryz.prog 151 c151:=fh t151 a151 Tryz.func151 [(0,lg l151 0)] ⟨fun x d h=>(w151_L0 x).trans h,trivial⟩ tn
noncomputable def t71:Tbl:=[]
abbrev h71_L0:Shape:={ slots:=[(0,.v (.sl (.int .u8))),(1,.v (.sl (.int .u8))),(5,.v (.int .i64))],boxes:=[] }
abbrev e71_L0:List (XT×Shape):=[(.ret,{ slots:=[(4,.v .bool)],boxes:=[] }),(.exit 0,{ slots:=[],boxes:=[] })]
noncomputable def q71_L0 (t0:(L Int)) (t1:(L Int)) (t5:Int):Option (Ta46⊕(((Bool×Unit)×Unit)⊕((Unit×Unit)⊕Empty))) :=
bif (decide (t5 < (t0.len:Int))) then bif (decide (0≤t5)&&decide (t5 < (t0.len:Int))) then bif (decide (0≤t5)&&decide (t5 < (t1.len:Int))) then bif ((L.get t0 t5.toNat) != (L.get t1 t5.toNat)) then some (.inr (.inl ((false,()),()))) else some (.inl ((t0,(t1,((wI (t5 + (1:Int))),()))),())) else none else none else some (.inr (.inr (.inl ((),()))))
noncomputable def s71_L0 (x:Ta46):=q71_L0 x.1.1 x.1.2.1 x.1.2.2.1
noncomputable def a71:Nat→Option LoopAnn:=fun c=>bif Nat.beq c 0 then some (.fix h71_L0 e71_L0 s71_L0) else none
noncomputable def g71 (x0:(L Int)) (x1:(L Int)):Option ((Bool×Unit)×Unit) :=
bif ((x0.len:Int) != (x1.len:Int)) then some ((false,()),()) else (fixO s71_L0 ((x0,(x1,((0:Int),()))),())).bind fun d2=>match d2 with | .inl y1=>some ((y1.1.1,()),()) | .inr (.inl y1)=>some ((true,()),()) | .inr (.inr e)=>nomatch e
noncomputable def c71:Ctr:={ ins:=[.v (.sl (.int .u8)),.v (.sl (.int .u8))],out:=[.bool],F:=fun x=>g71 x.1 x.2.1 }
noncomputable def l71:List (Nat×Code):=loopsIn (Tryz.f71.body.getD .skip) 0
theorem w71_L0:LW t71 a71 l71 0 0 h71_L0 e71_L0 s71_L0:=fun x=>by kernel_rfl
theorem o71:Holds Tryz.prog 71 c71:=fh t71 a71 Tryz.func71 [(0,lg l71 0)] ⟨fun x d h=>(w71_L0 x).trans h,trivial⟩ tn
noncomputable def t17:Tbl:=[(71,[],c71)]
abbrev h17_L0:Shape:={ slots:=[(0,.v (.sl (.sl (.int .u8)))),(1,.v (.sl (.sl (.int .u8)))),(5,.v (.int .i64))],boxes:=[] }
abbrev e17_L0:List (XT×Shape):=[(.ret,{ slots:=[(4,.v .bool)],boxes:=[] }),(.exit 0,{ slots:=[],boxes:=[] })]
noncomputable def q17_L0 (t0:(L (L Int))) (t1:(L (L Int))) (t5:Int):Option ((((L (L Int))×((L (L Int))×(Int×Unit)))×Unit)⊕(((Bool×Unit)×Unit)⊕((Unit×Unit)⊕Empty))) :=
bif (decide (t5 < (t0.len:Int))) then bif (decide (0≤t5)&&decide (t5 < (t0.len:Int))) then bif (decide (0≤t5)&&decide (t5 < (t1.len:Int))) then (g71 (L.get t0 t5.toNat) (L.get t1 t5.toNat)).bind fun y1=>bif (!y1.1.1) then some (.inr (.inl ((false,()),()))) else some (.inl ((t0,(t1,((wI (t5 + (1:Int))),()))),())) else none else none else some (.inr (.inr (.inl ((),()))))
noncomputable def s17_L0 (x:(((L (L Int))×((L (L Int))×(Int×Unit)))×Unit)):=q17_L0 x.1.1 x.1.2.1 x.1.2.2.1
noncomputable def a17:Nat→Option LoopAnn:=fun c=>bif Nat.beq c 0 then some (.fix h17_L0 e17_L0 s17_L0) else none
noncomputable def g17 (x0:(L (L Int))) (x1:(L (L Int))):Option ((Bool×Unit)×Unit) :=
bif ((x0.len:Int) != (x1.len:Int)) then some ((false,()),()) else (fixO s17_L0 ((x0,(x1,((0:Int),()))),())).bind fun d3=>match d3 with | .inl y2=>some ((y2.1.1,()),()) | .inr (.inl y2)=>some ((true,()),()) | .inr (.inr e)=>nomatch e
noncomputable def c17:Ctr:={ ins:=[.v (.sl (.sl (.int .u8))),.v (.sl (.sl (.int .u8)))],out:=[.bool],F:=fun x=>g17 x.1 x.2.1 }
noncomputable def l17:List (Nat×Code):=loopsIn (Tryz.f17.body.getD .skip) 0
theorem w17_L0:LW t17 a17 l17 0 0 h17_L0 e17_L0 s17_L0:=fun x=>by kernel_rfl
theorem o17:Holds Tryz.prog 17 c17:=fh t17 a17 Tryz.func17 [(0,lg l17 0)] ⟨fun x d h=>(w17_L0 x).trans h,trivial⟩ (tc o71 tn)
noncomputable def t57:Tbl:=[(151,[],c151),(17,[],c17)]
noncomputable def g57 (x0:Ta39) (x1:Ta39):Option ((Bool×Unit)×Unit) :=
(g151 x0.1 x1.1).bind fun y1=>bif (!y1.1.1) then some ((false,()),()) else bif (x0.2.1 != x1.2.1) then some ((false,()),()) else (g17 x0.2.2.1 x1.2.2.1).bind fun y2=>bif (!y2.1.1) then some ((false,()),()) else some ((true,()),())
noncomputable def c57:Ctr:={ ins:=[.v Ty112,.v Ty112],out:=[.bool],F:=fun x=>g57 x.1 x.2.1 }
theorem o57:Holds Tryz.prog 57 c57:=f0 t57 Tryz.func57 (tc o151 (tc o17 tn))
noncomputable def t58:Tbl:=[]
noncomputable def g58 (x0:Ta81) (x1:Ta81):Option ((Bool×Unit)×Unit) :=
bif (!(x0.1 == x1.1)) then some ((false,()),()) else bif (x0.2.1 != x1.2.1) then some ((false,()),()) else bif (x0.2.2.1 != x1.2.2.1) then some ((false,()),()) else bif (x0.2.2.2.1 != x1.2.2.2.1) then some ((false,()),()) else bif (x0.2.2.2.2.1 != x1.2.2.2.2.1) then some ((false,()),()) else bif (!(x0.2.2.2.2.2.1 == x1.2.2.2.2.2.1)) then some ((false,()),()) else bif (!(x0.2.2.2.2.2.2.1 == x1.2.2.2.2.2.2.1)) then some ((false,()),()) else bif (x0.2.2.2.2.2.2.2.1 != x1.2.2.2.2.2.2.2.1) then some ((false,()),()) else some ((true,()),())
noncomputable def f58 (x0:Ta81) (x1:Ta81):Bool :=
bif (!(x0.1 == x1.1)) then false else bif (x0.2.1 != x1.2.1) then false else bif (x0.2.2.1 != x1.2.2.1) then false else bif (x0.2.2.2.1 != x1.2.2.2.1) then false else bif (x0.2.2.2.2.1 != x1.2.2.2.2.1) then false else bif (!(x0.2.2.2.2.2.1 == x1.2.2.2.2.2.1)) then false else bif (!(x0.2.2.2.2.2.2.1 == x1.2.2.2.2.2.2.1)) then false else bif (x0.2.2.2.2.2.2.2.1 != x1.2.2.2.2.2.2.2.1) then false else true
theorem n58 (x0:Ta81) (x1:Ta81):g58 x0 x1 = some ((f58 x0 x1,()),()):=by simp only [g58,f58,pull1]
noncomputable def c58:Ctr:={ ins:=[.v Ty146,.v Ty146],out:=[.bool],F:=fun x=>some ((f58 x.1 x.2.1,()),()) }
theorem o58:Holds Tryz.prog 58 c58:=f0T t58 (fun x=>g58 x.1 x.2.1) Tryz.func58 tn (fun x=>n58 x.1 x.2.1)
noncomputable def t59:Tbl:=[]
noncomputable def g59 (x0:Ta22) (x1:Ta22):Option ((Bool×Unit)×Unit) :=
bif (x0.1 != x1.1) then some ((false,()),()) else bif (x0.2.1 != x1.2.1) then some ((false,()),()) else bif (x0.2.2.1 != x1.2.2.1) then some ((false,()),()) else bif (!(x0.2.2.2.1 == x1.2.2.2.1)) then some ((false,()),()) else some ((true,()),())
noncomputable def f59 (x0:Ta22) (x1:Ta22):Bool :=
bif (x0.1 != x1.1) then false else bif (x0.2.1 != x1.2.1) then false else bif (x0.2.2.1 != x1.2.2.1) then false else bif (!(x0.2.2.2.1 == x1.2.2.2.1)) then false else true
theorem n59 (x0:Ta22) (x1:Ta22):g59 x0 x1 = some ((f59 x0 x1,()),()):=by simp only [g59,f59,pull1]
noncomputable def c59:Ctr:={ ins:=[.v Ty109,.v Ty109],out:=[.bool],F:=fun x=>some ((f59 x.1 x.2.1,()),()) }
theorem o59:Holds Tryz.prog 59 c59:=f0T t59 (fun x=>g59 x.1 x.2.1) Tryz.func59 tn (fun x=>n59 x.1 x.2.1)
noncomputable def t65:Tbl:=[]
noncomputable def g65 (x0:(Int×(Int×(Int×Unit)))) (x1:(Int×(Int×(Int×Unit)))):Option ((Bool×Unit)×Unit) :=
bif (x0.1 != x1.1) then some ((false,()),()) else bif (x0.2.1 != x1.2.1) then some ((false,()),()) else bif (x0.2.2.1 != x1.2.2.1) then some ((false,()),()) else some ((true,()),())
noncomputable def f65 (x0:(Int×(Int×(Int×Unit)))) (x1:(Int×(Int×(Int×Unit)))):Bool :=
bif (x0.1 != x1.1) then false else bif (x0.2.1 != x1.2.1) then false else bif (x0.2.2.1 != x1.2.2.1) then false else true
theorem n65 (x0:(Int×(Int×(Int×Unit)))) (x1:(Int×(Int×(Int×Unit)))):g65 x0 x1 = some ((f65 x0 x1,()),()):=by simp only [g65,f65,pull1]
noncomputable def c65:Ctr:={ ins:=[.v Ty93,.v Ty93],out:=[.bool],F:=fun x=>some ((f65 x.1 x.2.1,()),()) }
theorem o65:Holds Tryz.prog 65 c65:=f0T t65 (fun x=>g65 x.1 x.2.1) Tryz.func65 tn (fun x=>n65 x.1 x.2.1)
noncomputable def t306:Tbl:=[]
noncomputable def g306 (x0:(Int×(Bool×Unit))) (x1:(Int×(Bool×Unit))):Option ((Bool×Unit)×Unit) :=
bif (x0.1 != x1.1) then some ((false,()),()) else bif (!(x0.2.1 == x1.2.1)) then some ((false,()),()) else some ((true,()),())
noncomputable def f306 (x0:(Int×(Bool×Unit))) (x1:(Int×(Bool×Unit))):Bool :=
bif (x0.1 != x1.1) then false else bif (!(x0.2.1 == x1.2.1)) then false else true
theorem n306 (x0:(Int×(Bool×Unit))) (x1:(Int×(Bool×Unit))):g306 x0 x1 = some ((f306 x0 x1,()),()):=by simp only [g306,f306,pull1]
noncomputable def c306:Ctr:={ ins:=[.v Ty48,.v Ty48],out:=[.bool],F:=fun x=>some ((f306 x.1 x.2.1,()),()) }
theorem o306:Holds Tryz.prog 306 c306:=f0T t306 (fun x=>g306 x.1 x.2.1) Tryz.func306 tn (fun x=>n306 x.1 x.2.1)
noncomputable def t242:Tbl:=[(306,[],c306)]
abbrev h242_L0:Shape:={ slots:=[(0,.v Ty60),(1,.v Ty60),(5,.v (.int .i64))],boxes:=[] }
abbrev e242_L0:List (XT×Shape):=[(.ret,{ slots:=[(4,.v .bool)],boxes:=[] }),(.exit 0,{ slots:=[],boxes:=[] })]
noncomputable def q242_L0 (t0:(L (Int×(Bool×Unit)))) (t1:(L (Int×(Bool×Unit)))) (t5:Int):Option ((((L (Int×(Bool×Unit)))×((L (Int×(Bool×Unit)))×(Int×Unit)))×Unit)⊕(((Bool×Unit)×Unit)⊕((Unit×Unit)⊕Empty))) :=
bif (decide (t5 < (t0.len:Int))) then bif (decide (0≤t5)&&decide (t5 < (t0.len:Int))) then bif (decide (0≤t5)&&decide (t5 < (t1.len:Int))) then bif (!(f306 (L.get t0 t5.toNat) (L.get t1 t5.toNat))) then some (.inr (.inl ((false,()),()))) else some (.inl ((t0,(t1,((wI (t5 + (1:Int))),()))),())) else none else none else some (.inr (.inr (.inl ((),()))))
noncomputable def s242_L0 (x:(((L (Int×(Bool×Unit)))×((L (Int×(Bool×Unit)))×(Int×Unit)))×Unit)):=q242_L0 x.1.1 x.1.2.1 x.1.2.2.1
noncomputable def a242:Nat→Option LoopAnn:=fun c=>bif Nat.beq c 0 then some (.fix h242_L0 e242_L0 s242_L0) else none
noncomputable def g242 (x0:(L (Int×(Bool×Unit)))) (x1:(L (Int×(Bool×Unit)))):Option ((Bool×Unit)×Unit) :=
bif ((x0.len:Int) != (x1.len:Int)) then some ((false,()),()) else (fixO s242_L0 ((x0,(x1,((0:Int),()))),())).bind fun d2=>match d2 with | .inl y1=>some ((y1.1.1,()),()) | .inr (.inl y1)=>some ((true,()),()) | .inr (.inr e)=>nomatch e
noncomputable def c242:Ctr:={ ins:=[.v Ty60,.v Ty60],out:=[.bool],F:=fun x=>g242 x.1 x.2.1 }
noncomputable def l242:List (Nat×Code):=loopsIn (Tryz.f242.body.getD .skip) 0
theorem w242_L0:LW t242 a242 l242 0 0 h242_L0 e242_L0 s242_L0:=fun x=>by kernel_rfl
theorem o242:Holds Tryz.prog 242 c242:=fh t242 a242 Tryz.func242 [(0,lg l242 0)] ⟨fun x d h=>(w242_L0 x).trans h,trivial⟩ (tc o306 tn)
noncomputable def t152:Tbl:=[(242,[],c242)]
abbrev h152_L0:Shape:={ slots:=[(0,.v Ty72),(1,.v Ty72),(5,.v (.int .i64))],boxes:=[] }
abbrev e152_L0:List (XT×Shape):=[(.ret,{ slots:=[(4,.v .bool)],boxes:=[] }),(.exit 0,{ slots:=[],boxes:=[] })]
noncomputable def q152_L0 (t0:Ta9) (t1:Ta9) (t5:Int):Option (((Ta9×(Ta9×(Int×Unit)))×Unit)⊕(((Bool×Unit)×Unit)⊕((Unit×Unit)⊕Empty))) :=
bif (decide (t5 < (t0.len:Int))) then bif (decide (0≤t5)&&decide (t5 < (t0.len:Int))) then bif (decide (0≤t5)&&decide (t5 < (t1.len:Int))) then (g242 (L.get t0 t5.toNat) (L.get t1 t5.toNat)).bind fun y1=>bif (!y1.1.1) then some (.inr (.inl ((false,()),()))) else some (.inl ((t0,(t1,((wI (t5 + (1:Int))),()))),())) else none else none else some (.inr (.inr (.inl ((),()))))
noncomputable def s152_L0 (x:((Ta9×(Ta9×(Int×Unit)))×Unit)):=q152_L0 x.1.1 x.1.2.1 x.1.2.2.1
noncomputable def a152:Nat→Option LoopAnn:=fun c=>bif Nat.beq c 0 then some (.fix h152_L0 e152_L0 s152_L0) else none
noncomputable def g152 (x0:Ta9) (x1:Ta9):Option ((Bool×Unit)×Unit) :=
bif ((x0.len:Int) != (x1.len:Int)) then some ((false,()),()) else (fixO s152_L0 ((x0,(x1,((0:Int),()))),())).bind fun d3=>match d3 with | .inl y2=>some ((y2.1.1,()),()) | .inr (.inl y2)=>some ((true,()),()) | .inr (.inr e)=>nomatch e
noncomputable def c152:Ctr:={ ins:=[.v Ty72,.v Ty72],out:=[.bool],F:=fun x=>g152 x.1 x.2.1 }
noncomputable def l152:List (Nat×Code):=loopsIn (Tryz.f152.body.getD .skip) 0
theorem w152_L0:LW t152 a152 l152 0 0 h152_L0 e152_L0 s152_L0:=fun x=>by kernel_rfl
theorem o152:Holds Tryz.prog 152 c152:=fh t152 a152 Tryz.func152 [(0,lg l152 0)] ⟨fun x d h=>(w152_L0 x).trans h,trivial⟩ (tc o242 tn)
noncomputable def t60:Tbl:=[(65,[],c65),(152,[],c152)]
noncomputable def g60 (x0:Ta85) (x1:Ta85):Option ((Bool×Unit)×Unit) :=
bif (!(f65 x0.1 x1.1)) then some ((false,()),()) else (g152 x0.2.1 x1.2.1).bind fun y1=>bif (!y1.1.1) then some ((false,()),()) else some ((true,()),())
noncomputable def c60:Ctr:={ ins:=[.v Ty142,.v Ty142],out:=[.bool],F:=fun x=>g60 x.1 x.2.1 }
theorem o60:Holds Tryz.prog 60 c60:=f0 t60 Tryz.func60 (tc o65 (tc o152 tn))
noncomputable def t68:Tbl:=[]
abbrev h68_L0:Shape:={ slots:=[(0,.v (.sl (.int .i64))),(1,.v (.sl (.int .i64))),(5,.v (.int .i64))],boxes:=[] }
abbrev e68_L0:List (XT×Shape):=[(.ret,{ slots:=[(4,.v .bool)],boxes:=[] }),(.exit 0,{ slots:=[],boxes:=[] })]
noncomputable def q68_L0 (t0:(L Int)) (t1:(L Int)) (t5:Int):Option (Ta46⊕(((Bool×Unit)×Unit)⊕((Unit×Unit)⊕Empty))) :=
bif (decide (t5 < (t0.len:Int))) then bif (decide (0≤t5)&&decide (t5 < (t0.len:Int))) then bif (decide (0≤t5)&&decide (t5 < (t1.len:Int))) then bif ((L.get t0 t5.toNat) != (L.get t1 t5.toNat)) then some (.inr (.inl ((false,()),()))) else some (.inl ((t0,(t1,((wI (t5 + (1:Int))),()))),())) else none else none else some (.inr (.inr (.inl ((),()))))
noncomputable def s68_L0 (x:Ta46):=q68_L0 x.1.1 x.1.2.1 x.1.2.2.1
noncomputable def a68:Nat→Option LoopAnn:=fun c=>bif Nat.beq c 0 then some (.fix h68_L0 e68_L0 s68_L0) else none
noncomputable def g68 (x0:(L Int)) (x1:(L Int)):Option ((Bool×Unit)×Unit) :=
bif ((x0.len:Int) != (x1.len:Int)) then some ((false,()),()) else (fixO s68_L0 ((x0,(x1,((0:Int),()))),())).bind fun d2=>match d2 with | .inl y1=>some ((y1.1.1,()),()) | .inr (.inl y1)=>some ((true,()),()) | .inr (.inr e)=>nomatch e
noncomputable def c68:Ctr:={ ins:=[.v (.sl (.int .i64)),.v (.sl (.int .i64))],out:=[.bool],F:=fun x=>g68 x.1 x.2.1 }
noncomputable def l68:List (Nat×Code):=loopsIn (Tryz.f68.body.getD .skip) 0
theorem w68_L0:LW t68 a68 l68 0 0 h68_L0 e68_L0 s68_L0:=fun x=>by kernel_rfl
theorem o68:Holds Tryz.prog 68 c68:=fh t68 a68 Tryz.func68 [(0,lg l68 0)] ⟨fun x d h=>(w68_L0 x).trans h,trivial⟩ tn
noncomputable def t61:Tbl:=[(68,[],c68)]
noncomputable def g61 (x0:(Int×((L Int)×Unit))) (x1:(Int×((L Int)×Unit))):Option ((Bool×Unit)×Unit) :=
bif (x0.1 != x1.1) then some ((false,()),()) else (g68 x0.2.1 x1.2.1).bind fun y1=>bif (!y1.1.1) then some ((false,()),()) else some ((true,()),())
noncomputable def c61:Ctr:={ ins:=[.v Ty73,.v Ty73],out:=[.bool],F:=fun x=>g61 x.1 x.2.1 }
theorem o61:Holds Tryz.prog 61 c61:=f0 t61 Tryz.func61 (tc o68 tn)
noncomputable def t153:Tbl:=[(151,[],c151)]
noncomputable def g153 (x0:(Int×((L Int)×Unit))) (x1:(Int×((L Int)×Unit))):Option ((Bool×Unit)×Unit) :=
bif (x0.1 != x1.1) then some ((false,()),()) else (g151 x0.2.1 x1.2.1).bind fun y1=>bif (!y1.1.1) then some ((false,()),()) else some ((true,()),())
noncomputable def c153:Ctr:={ ins:=[.v Ty71,.v Ty71],out:=[.bool],F:=fun x=>g153 x.1 x.2.1 }
theorem o153:Holds Tryz.prog 153 c153:=f0 t153 Tryz.func153 (tc o151 tn)
noncomputable def t62:Tbl:=[(153,[],c153)]
abbrev h62_L0:Shape:={ slots:=[(0,.v Ty86),(1,.v Ty86),(5,.v (.int .i64))],boxes:=[] }
abbrev e62_L0:List (XT×Shape):=[(.ret,{ slots:=[(4,.v .bool)],boxes:=[] }),(.exit 0,{ slots:=[],boxes:=[] })]
noncomputable def q62_L0 (t0:Ta3) (t1:Ta3) (t5:Int):Option (((Ta3×(Ta3×(Int×Unit)))×Unit)⊕(((Bool×Unit)×Unit)⊕((Unit×Unit)⊕Empty))) :=
bif (decide (t5 < (t0.len:Int))) then bif (decide (0≤t5)&&decide (t5 < (t0.len:Int))) then bif (decide (0≤t5)&&decide (t5 < (t1.len:Int))) then (g153 (L.get t0 t5.toNat) (L.get t1 t5.toNat)).bind fun y1=>bif (!y1.1.1) then some (.inr (.inl ((false,()),()))) else some (.inl ((t0,(t1,((wI (t5 + (1:Int))),()))),())) else none else none else some (.inr (.inr (.inl ((),()))))
noncomputable def s62_L0 (x:((Ta3×(Ta3×(Int×Unit)))×Unit)):=q62_L0 x.1.1 x.1.2.1 x.1.2.2.1
noncomputable def a62:Nat→Option LoopAnn:=fun c=>bif Nat.beq c 0 then some (.fix h62_L0 e62_L0 s62_L0) else none
noncomputable def g62 (x0:Ta3) (x1:Ta3):Option ((Bool×Unit)×Unit) :=
bif ((x0.len:Int) != (x1.len:Int)) then some ((false,()),()) else (fixO s62_L0 ((x0,(x1,((0:Int),()))),())).bind fun d3=>match d3 with | .inl y2=>some ((y2.1.1,()),()) | .inr (.inl y2)=>some ((true,()),()) | .inr (.inr e)=>nomatch e
noncomputable def c62:Ctr:={ ins:=[.v Ty86,.v Ty86],out:=[.bool],F:=fun x=>g62 x.1 x.2.1 }
noncomputable def l62:List (Nat×Code):=loopsIn (Tryz.f62.body.getD .skip) 0
theorem w62_L0:LW t62 a62 l62 0 0 h62_L0 e62_L0 s62_L0:=fun x=>by kernel_rfl
theorem o62:Holds Tryz.prog 62 c62:=fh t62 a62 Tryz.func62 [(0,lg l62 0)] ⟨fun x d h=>(w62_L0 x).trans h,trivial⟩ (tc o153 tn)
noncomputable def t154:Tbl:=[(151,[],c151)]
noncomputable def g154 (x0:((L Int)×Unit)) (x1:((L Int)×Unit)):Option ((Bool×Unit)×Unit) :=
(g151 x0.1 x1.1).bind fun y1=>bif (!y1.1.1) then some ((false,()),()) else some ((true,()),())
noncomputable def c154:Ctr:={ ins:=[.v Ty27,.v Ty27],out:=[.bool],F:=fun x=>g154 x.1 x.2.1 }
theorem o154:Holds Tryz.prog 154 c154:=f0 t154 Tryz.func154 (tc o151 tn)
noncomputable def t63:Tbl:=[(154,[],c154)]
abbrev h63_L0:Shape:={ slots:=[(0,.v Ty45),(1,.v Ty45),(5,.v (.int .i64))],boxes:=[] }
abbrev e63_L0:List (XT×Shape):=[(.ret,{ slots:=[(4,.v .bool)],boxes:=[] }),(.exit 0,{ slots:=[],boxes:=[] })]
noncomputable def q63_L0 (t0:(L ((L Int)×Unit))) (t1:(L ((L Int)×Unit))) (t5:Int):Option ((((L ((L Int)×Unit))×((L ((L Int)×Unit))×(Int×Unit)))×Unit)⊕(((Bool×Unit)×Unit)⊕((Unit×Unit)⊕Empty))) :=
bif (decide (t5 < (t0.len:Int))) then bif (decide (0≤t5)&&decide (t5 < (t0.len:Int))) then bif (decide (0≤t5)&&decide (t5 < (t1.len:Int))) then (g154 (L.get t0 t5.toNat) (L.get t1 t5.toNat)).bind fun y1=>bif (!y1.1.1) then some (.inr (.inl ((false,()),()))) else some (.inl ((t0,(t1,((wI (t5 + (1:Int))),()))),())) else none else none else some (.inr (.inr (.inl ((),()))))
noncomputable def s63_L0 (x:(((L ((L Int)×Unit))×((L ((L Int)×Unit))×(Int×Unit)))×Unit)):=q63_L0 x.1.1 x.1.2.1 x.1.2.2.1
noncomputable def a63:Nat→Option LoopAnn:=fun c=>bif Nat.beq c 0 then some (.fix h63_L0 e63_L0 s63_L0) else none
noncomputable def g63 (x0:(L ((L Int)×Unit))) (x1:(L ((L Int)×Unit))):Option ((Bool×Unit)×Unit) :=
bif ((x0.len:Int) != (x1.len:Int)) then some ((false,()),()) else (fixO s63_L0 ((x0,(x1,((0:Int),()))),())).bind fun d3=>match d3 with | .inl y2=>some ((y2.1.1,()),()) | .inr (.inl y2)=>some ((true,()),()) | .inr (.inr e)=>nomatch e
noncomputable def c63:Ctr:={ ins:=[.v Ty45,.v Ty45],out:=[.bool],F:=fun x=>g63 x.1 x.2.1 }
noncomputable def l63:List (Nat×Code):=loopsIn (Tryz.f63.body.getD .skip) 0
theorem w63_L0:LW t63 a63 l63 0 0 h63_L0 e63_L0 s63_L0:=fun x=>by kernel_rfl
theorem o63:Holds Tryz.prog 63 c63:=fh t63 a63 Tryz.func63 [(0,lg l63 0)] ⟨fun x d h=>(w63_L0 x).trans h,trivial⟩ (tc o154 tn)
noncomputable def t155:Tbl:=[(151,[],c151)]
noncomputable def g155 (x0:Ta4) (x1:Ta4):Option ((Bool×Unit)×Unit) :=
(g151 x0.1 x1.1).bind fun y1=>bif (!y1.1.1) then some ((false,()),()) else (g151 x0.2.1 x1.2.1).bind fun y2=>bif (!y2.1.1) then some ((false,()),()) else some ((true,()),())
noncomputable def c155:Ctr:={ ins:=[.v Ty84,.v Ty84],out:=[.bool],F:=fun x=>g155 x.1 x.2.1 }
theorem o155:Holds Tryz.prog 155 c155:=f0 t155 Tryz.func155 (tc o151 tn)
noncomputable def t64:Tbl:=[(155,[],c155)]
abbrev h64_L0:Shape:={ slots:=[(0,.v Ty91),(1,.v Ty91),(5,.v (.int .i64))],boxes:=[] }
abbrev e64_L0:List (XT×Shape):=[(.ret,{ slots:=[(4,.v .bool)],boxes:=[] }),(.exit 0,{ slots:=[],boxes:=[] })]
noncomputable def q64_L0 (t0:Ta19) (t1:Ta19) (t5:Int):Option (((Ta19×(Ta19×(Int×Unit)))×Unit)⊕(((Bool×Unit)×Unit)⊕((Unit×Unit)⊕Empty))) :=
bif (decide (t5 < (t0.len:Int))) then bif (decide (0≤t5)&&decide (t5 < (t0.len:Int))) then bif (decide (0≤t5)&&decide (t5 < (t1.len:Int))) then (g155 (L.get t0 t5.toNat) (L.get t1 t5.toNat)).bind fun y1=>bif (!y1.1.1) then some (.inr (.inl ((false,()),()))) else some (.inl ((t0,(t1,((wI (t5 + (1:Int))),()))),())) else none else none else some (.inr (.inr (.inl ((),()))))
noncomputable def s64_L0 (x:((Ta19×(Ta19×(Int×Unit)))×Unit)):=q64_L0 x.1.1 x.1.2.1 x.1.2.2.1
noncomputable def a64:Nat→Option LoopAnn:=fun c=>bif Nat.beq c 0 then some (.fix h64_L0 e64_L0 s64_L0) else none
noncomputable def g64 (x0:Ta19) (x1:Ta19):Option ((Bool×Unit)×Unit) :=
bif ((x0.len:Int) != (x1.len:Int)) then some ((false,()),()) else (fixO s64_L0 ((x0,(x1,((0:Int),()))),())).bind fun d3=>match d3 with | .inl y2=>some ((y2.1.1,()),()) | .inr (.inl y2)=>some ((true,()),()) | .inr (.inr e)=>nomatch e
noncomputable def c64:Ctr:={ ins:=[.v Ty91,.v Ty91],out:=[.bool],F:=fun x=>g64 x.1 x.2.1 }
noncomputable def l64:List (Nat×Code):=loopsIn (Tryz.f64.body.getD .skip) 0
theorem w64_L0:LW t64 a64 l64 0 0 h64_L0 e64_L0 s64_L0:=fun x=>by kernel_rfl
theorem o64:Holds Tryz.prog 64 c64:=fh t64 a64 Tryz.func64 [(0,lg l64 0)] ⟨fun x d h=>(w64_L0 x).trans h,trivial⟩ (tc o155 tn)
noncomputable def t15:Tbl:=[(57,[],c57),(58,[],c58),(59,[],c59),(60,[],c60),(61,[],c61),(17,[],c17),(62,[],c62),(63,[],c63),(64,[],c64)]
noncomputable def g15 (x0:Ta187) (x1:Ta187):Option ((Bool×Unit)×Unit) :=
(g57 x0.1 x1.1).bind fun y1=>bif (!y1.1.1) then some ((false,()),()) else bif (!(f58 x0.2.1 x1.2.1)) then some ((false,()),()) else bif (!(f59 x0.2.2.1 x1.2.2.1)) then some ((false,()),()) else (g60 x0.2.2.2.1 x1.2.2.2.1).bind fun y2=>bif (!y2.1.1) then some ((false,()),()) else (g61 x0.2.2.2.2.1 x1.2.2.2.2.1).bind fun y3=>bif (!y3.1.1) then some ((false,()),()) else bif (x0.2.2.2.2.2.1 != x1.2.2.2.2.2.1) then some ((false,()),()) else bif (!(x0.2.2.2.2.2.2.1 == x1.2.2.2.2.2.2.1)) then some ((false,()),()) else (g17 x0.2.2.2.2.2.2.2.1 x1.2.2.2.2.2.2.2.1).bind fun y4=>bif (!y4.1.1) then some ((false,()),()) else (g62 x0.2.2.2.2.2.2.2.2.1 x1.2.2.2.2.2.2.2.2.1).bind fun y5=>bif (!y5.1.1) then some ((false,()),()) else (g63 x0.2.2.2.2.2.2.2.2.2.1 x1.2.2.2.2.2.2.2.2.2.1).bind fun y6=>bif (!y6.1.1) then some ((false,()),()) else (g64 x0.2.2.2.2.2.2.2.2.2.2.1 x1.2.2.2.2.2.2.2.2.2.2.1).bind fun y7=>bif (!y7.1.1) then some ((false,()),()) else some ((true,()),())
noncomputable def c15:Ctr:={ ins:=[.v Ty203,.v Ty203],out:=[.bool],F:=fun x=>g15 x.1 x.2.1 }
theorem o15:Holds Tryz.prog 15 c15:=f0 t15 Tryz.func15 (tc o57 (tc o58 (tc o59 (tc o60 (tc o61 (tc o17 (tc o62 (tc o63 (tc o64 tn)))))))))
noncomputable def t66:Tbl:=[]
noncomputable def g66 (x0:Ta64) (x1:Ta64):Option ((Bool×Unit)×Unit) :=
bif (x0.1 != x1.1) then some ((false,()),()) else bif (x0.2.1 != x1.2.1) then some ((false,()),()) else bif (x0.2.2.1 != x1.2.2.1) then some ((false,()),()) else bif (x0.2.2.2.1 != x1.2.2.2.1) then some ((false,()),()) else bif (x0.2.2.2.2.1 != x1.2.2.2.2.1) then some ((false,()),()) else bif (x0.2.2.2.2.2.1 != x1.2.2.2.2.2.1) then some ((false,()),()) else bif (x0.2.2.2.2.2.2.1 != x1.2.2.2.2.2.2.1) then some ((false,()),()) else some ((true,()),())
noncomputable def f66 (x0:Ta64) (x1:Ta64):Bool :=
bif (x0.1 != x1.1) then false else bif (x0.2.1 != x1.2.1) then false else bif (x0.2.2.1 != x1.2.2.1) then false else bif (x0.2.2.2.1 != x1.2.2.2.1) then false else bif (x0.2.2.2.2.1 != x1.2.2.2.2.1) then false else bif (x0.2.2.2.2.2.1 != x1.2.2.2.2.2.1) then false else bif (x0.2.2.2.2.2.2.1 != x1.2.2.2.2.2.2.1) then false else true
theorem n66 (x0:Ta64) (x1:Ta64):g66 x0 x1 = some ((f66 x0 x1,()),()):=by simp only [g66,f66,pull1]
noncomputable def c66:Ctr:={ ins:=[.v Ty144,.v Ty144],out:=[.bool],F:=fun x=>some ((f66 x.1 x.2.1,()),()) }
theorem o66:Holds Tryz.prog 66 c66:=f0T t66 (fun x=>g66 x.1 x.2.1) Tryz.func66 tn (fun x=>n66 x.1 x.2.1)
noncomputable def t243:Tbl:=[]
noncomputable def g243 (x0:(Int×(Int×Unit))) (x1:(Int×(Int×Unit))):Option ((Bool×Unit)×Unit) :=
bif (x0.1 != x1.1) then some ((false,()),()) else bif (x0.2.1 != x1.2.1) then some ((false,()),()) else some ((true,()),())
noncomputable def f243 (x0:(Int×(Int×Unit))) (x1:(Int×(Int×Unit))):Bool :=
bif (x0.1 != x1.1) then false else bif (x0.2.1 != x1.2.1) then false else true
theorem n243 (x0:(Int×(Int×Unit))) (x1:(Int×(Int×Unit))):g243 x0 x1 = some ((f243 x0 x1,()),()):=by simp only [g243,f243,pull1]
noncomputable def c243:Ctr:={ ins:=[.v Ty61,.v Ty61],out:=[.bool],F:=fun x=>some ((f243 x.1 x.2.1,()),()) }
theorem o243:Holds Tryz.prog 243 c243:=f0T t243 (fun x=>g243 x.1 x.2.1) Tryz.func243 tn (fun x=>n243 x.1 x.2.1)
noncomputable def t307:Tbl:=[]
noncomputable def g307 (x0:(Int×(Int×(Int×Unit)))) (x1:(Int×(Int×(Int×Unit)))):Option ((Bool×Unit)×Unit) :=
bif (x0.1 != x1.1) then some ((false,()),()) else bif (x0.2.1 != x1.2.1) then some ((false,()),()) else bif (x0.2.2.1 != x1.2.2.1) then some ((false,()),()) else some ((true,()),())
noncomputable def f307 (x0:(Int×(Int×(Int×Unit)))) (x1:(Int×(Int×(Int×Unit)))):Bool :=
bif (x0.1 != x1.1) then false else bif (x0.2.1 != x1.2.1) then false else bif (x0.2.2.1 != x1.2.2.1) then false else true
theorem n307 (x0:(Int×(Int×(Int×Unit)))) (x1:(Int×(Int×(Int×Unit)))):g307 x0 x1 = some ((f307 x0 x1,()),()):=by simp only [g307,f307,pull1]
noncomputable def c307:Ctr:={ ins:=[.v Ty93,.v Ty93],out:=[.bool],F:=fun x=>some ((f307 x.1 x.2.1,()),()) }
theorem o307:Holds Tryz.prog 307 c307:=f0T t307 (fun x=>g307 x.1 x.2.1) Tryz.func307 tn (fun x=>n307 x.1 x.2.1)
noncomputable def t244:Tbl:=[(307,[],c307)]
abbrev h244_L0:Shape:={ slots:=[(0,.v Ty99),(1,.v Ty99),(5,.v (.int .i64))],boxes:=[] }
abbrev e244_L0:List (XT×Shape):=[(.ret,{ slots:=[(4,.v .bool)],boxes:=[] }),(.exit 0,{ slots:=[],boxes:=[] })]
noncomputable def q244_L0 (t0:Ta13) (t1:Ta13) (t5:Int):Option (Ta103⊕(((Bool×Unit)×Unit)⊕((Unit×Unit)⊕Empty))) :=
bif (decide (t5 < (t0.len:Int))) then bif (decide (0≤t5)&&decide (t5 < (t0.len:Int))) then bif (decide (0≤t5)&&decide (t5 < (t1.len:Int))) then bif (!(f307 (L.get t0 t5.toNat) (L.get t1 t5.toNat))) then some (.inr (.inl ((false,()),()))) else some (.inl ((t0,(t1,((wI (t5 + (1:Int))),()))),())) else none else none else some (.inr (.inr (.inl ((),()))))
noncomputable def s244_L0 (x:Ta103):=q244_L0 x.1.1 x.1.2.1 x.1.2.2.1
noncomputable def a244:Nat→Option LoopAnn:=fun c=>bif Nat.beq c 0 then some (.fix h244_L0 e244_L0 s244_L0) else none
noncomputable def g244 (x0:Ta13) (x1:Ta13):Option ((Bool×Unit)×Unit) :=
bif ((x0.len:Int) != (x1.len:Int)) then some ((false,()),()) else (fixO s244_L0 ((x0,(x1,((0:Int),()))),())).bind fun d2=>match d2 with | .inl y1=>some ((y1.1.1,()),()) | .inr (.inl y1)=>some ((true,()),()) | .inr (.inr e)=>nomatch e
noncomputable def c244:Ctr:={ ins:=[.v Ty99,.v Ty99],out:=[.bool],F:=fun x=>g244 x.1 x.2.1 }
noncomputable def l244:List (Nat×Code):=loopsIn (Tryz.f244.body.getD .skip) 0
theorem w244_L0:LW t244 a244 l244 0 0 h244_L0 e244_L0 s244_L0:=fun x=>by kernel_rfl
theorem o244:Holds Tryz.prog 244 c244:=fh t244 a244 Tryz.func244 [(0,lg l244 0)] ⟨fun x d h=>(w244_L0 x).trans h,trivial⟩ (tc o307 tn)
noncomputable def t156:Tbl:=[(243,[],c243),(244,[],c244)]
noncomputable def g156 (x0:Ta98) (x1:Ta98):Option ((Bool×Unit)×Unit) :=
bif (!strEq x0.1 x1.1) then some ((false,()),()) else bif (x0.2.1 != x1.2.1) then some ((false,()),()) else bif (!(f243 x0.2.2.1 x1.2.2.1)) then some ((false,()),()) else (g244 x0.2.2.2.1 x1.2.2.2.1).bind fun y1=>bif (!y1.1.1) then some ((false,()),()) else some ((true,()),())
noncomputable def c156:Ctr:={ ins:=[.v Ty156,.v Ty156],out:=[.bool],F:=fun x=>g156 x.1 x.2.1 }
theorem o156:Holds Tryz.prog 156 c156:=f0 t156 Tryz.func156 (tc o243 (tc o244 tn))
noncomputable def t67:Tbl:=[(156,[],c156)]
abbrev h67_L0:Shape:={ slots:=[(0,.v Ty159),(1,.v Ty159),(5,.v (.int .i64))],boxes:=[] }
abbrev e67_L0:List (XT×Shape):=[(.ret,{ slots:=[(4,.v .bool)],boxes:=[] }),(.exit 0,{ slots:=[],boxes:=[] })]
noncomputable def q67_L0 (t0:Ta102) (t1:Ta102) (t5:Int):Option (((Ta102×(Ta102×(Int×Unit)))×Unit)⊕(((Bool×Unit)×Unit)⊕((Unit×Unit)⊕Empty))) :=
bif (decide (t5 < (t0.len:Int))) then bif (decide (0≤t5)&&decide (t5 < (t0.len:Int))) then bif (decide (0≤t5)&&decide (t5 < (t1.len:Int))) then (g156 (L.get t0 t5.toNat) (L.get t1 t5.toNat)).bind fun y1=>bif (!y1.1.1) then some (.inr (.inl ((false,()),()))) else some (.inl ((t0,(t1,((wI (t5 + (1:Int))),()))),())) else none else none else some (.inr (.inr (.inl ((),()))))
noncomputable def s67_L0 (x:((Ta102×(Ta102×(Int×Unit)))×Unit)):=q67_L0 x.1.1 x.1.2.1 x.1.2.2.1
noncomputable def a67:Nat→Option LoopAnn:=fun c=>bif Nat.beq c 0 then some (.fix h67_L0 e67_L0 s67_L0) else none
noncomputable def g67 (x0:Ta102) (x1:Ta102):Option ((Bool×Unit)×Unit) :=
bif ((x0.len:Int) != (x1.len:Int)) then some ((false,()),()) else (fixO s67_L0 ((x0,(x1,((0:Int),()))),())).bind fun d3=>match d3 with | .inl y2=>some ((y2.1.1,()),()) | .inr (.inl y2)=>some ((true,()),()) | .inr (.inr e)=>nomatch e
noncomputable def c67:Ctr:={ ins:=[.v Ty159,.v Ty159],out:=[.bool],F:=fun x=>g67 x.1 x.2.1 }
noncomputable def l67:List (Nat×Code):=loopsIn (Tryz.f67.body.getD .skip) 0
theorem w67_L0:LW t67 a67 l67 0 0 h67_L0 e67_L0 s67_L0:=fun x=>by kernel_rfl
theorem o67:Holds Tryz.prog 67 c67:=fh t67 a67 Tryz.func67 [(0,lg l67 0)] ⟨fun x d h=>(w67_L0 x).trans h,trivial⟩ (tc o156 tn)
noncomputable def t157:Tbl:=[]
noncomputable def g157 (x0:Ta17) (x1:Ta17):Option ((Bool×Unit)×Unit) :=
bif (x0.1 != x1.1) then some ((false,()),()) else bif (x0.2.1 != x1.2.1) then some ((false,()),()) else bif (x0.2.2.1 != x1.2.2.1) then some ((false,()),()) else bif (x0.2.2.2.1 != x1.2.2.2.1) then some ((false,()),()) else some ((true,()),())
noncomputable def f157 (x0:Ta17) (x1:Ta17):Bool :=
bif (x0.1 != x1.1) then false else bif (x0.2.1 != x1.2.1) then false else bif (x0.2.2.1 != x1.2.2.1) then false else bif (x0.2.2.2.1 != x1.2.2.2.1) then false else true
theorem n157 (x0:Ta17) (x1:Ta17):g157 x0 x1 = some ((f157 x0 x1,()),()):=by simp only [g157,f157,pull1]
noncomputable def c157:Ctr:={ ins:=[.v Ty116,.v Ty116],out:=[.bool],F:=fun x=>some ((f157 x.1 x.2.1,()),()) }
theorem o157:Holds Tryz.prog 157 c157:=f0T t157 (fun x=>g157 x.1 x.2.1) Tryz.func157 tn (fun x=>n157 x.1 x.2.1)
noncomputable def t69:Tbl:=[(157,[],c157)]
abbrev h69_L0:Shape:={ slots:=[(0,.v Ty118),(1,.v Ty118),(5,.v (.int .i64))],boxes:=[] }
abbrev e69_L0:List (XT×Shape):=[(.ret,{ slots:=[(4,.v .bool)],boxes:=[] }),(.exit 0,{ slots:=[],boxes:=[] })]
noncomputable def q69_L0 (t0:Ta32) (t1:Ta32) (t5:Int):Option (((Ta32×(Ta32×(Int×Unit)))×Unit)⊕(((Bool×Unit)×Unit)⊕((Unit×Unit)⊕Empty))) :=
bif (decide (t5 < (t0.len:Int))) then bif (decide (0≤t5)&&decide (t5 < (t0.len:Int))) then bif (decide (0≤t5)&&decide (t5 < (t1.len:Int))) then bif (!(f157 (L.get t0 t5.toNat) (L.get t1 t5.toNat))) then some (.inr (.inl ((false,()),()))) else some (.inl ((t0,(t1,((wI (t5 + (1:Int))),()))),())) else none else none else some (.inr (.inr (.inl ((),()))))
noncomputable def s69_L0 (x:((Ta32×(Ta32×(Int×Unit)))×Unit)):=q69_L0 x.1.1 x.1.2.1 x.1.2.2.1
noncomputable def a69:Nat→Option LoopAnn:=fun c=>bif Nat.beq c 0 then some (.fix h69_L0 e69_L0 s69_L0) else none
noncomputable def g69 (x0:Ta32) (x1:Ta32):Option ((Bool×Unit)×Unit) :=
bif ((x0.len:Int) != (x1.len:Int)) then some ((false,()),()) else (fixO s69_L0 ((x0,(x1,((0:Int),()))),())).bind fun d2=>match d2 with | .inl y1=>some ((y1.1.1,()),()) | .inr (.inl y1)=>some ((true,()),()) | .inr (.inr e)=>nomatch e
noncomputable def c69:Ctr:={ ins:=[.v Ty118,.v Ty118],out:=[.bool],F:=fun x=>g69 x.1 x.2.1 }
noncomputable def l69:List (Nat×Code):=loopsIn (Tryz.f69.body.getD .skip) 0
theorem w69_L0:LW t69 a69 l69 0 0 h69_L0 e69_L0 s69_L0:=fun x=>by kernel_rfl
theorem o69:Holds Tryz.prog 69 c69:=fh t69 a69 Tryz.func69 [(0,lg l69 0)] ⟨fun x d h=>(w69_L0 x).trans h,trivial⟩ (tc o157 tn)
noncomputable def t158:Tbl:=[]
noncomputable def g158 (x0:(Int×(Int×(Int×Unit)))) (x1:(Int×(Int×(Int×Unit)))):Option ((Bool×Unit)×Unit) :=
bif (x0.1 != x1.1) then some ((false,()),()) else bif (x0.2.1 != x1.2.1) then some ((false,()),()) else bif (x0.2.2.1 != x1.2.2.1) then some ((false,()),()) else some ((true,()),())
noncomputable def f158 (x0:(Int×(Int×(Int×Unit)))) (x1:(Int×(Int×(Int×Unit)))):Bool :=
bif (x0.1 != x1.1) then false else bif (x0.2.1 != x1.2.1) then false else bif (x0.2.2.1 != x1.2.2.1) then false else true
theorem n158 (x0:(Int×(Int×(Int×Unit)))) (x1:(Int×(Int×(Int×Unit)))):g158 x0 x1 = some ((f158 x0 x1,()),()):=by simp only [g158,f158,pull1]
noncomputable def c158:Ctr:={ ins:=[.v Ty93,.v Ty93],out:=[.bool],F:=fun x=>some ((f158 x.1 x.2.1,()),()) }
theorem o158:Holds Tryz.prog 158 c158:=f0T t158 (fun x=>g158 x.1 x.2.1) Tryz.func158 tn (fun x=>n158 x.1 x.2.1)
noncomputable def t70:Tbl:=[(158,[],c158)]
abbrev h70_L0:Shape:={ slots:=[(0,.v Ty99),(1,.v Ty99),(5,.v (.int .i64))],boxes:=[] }
abbrev e70_L0:List (XT×Shape):=[(.ret,{ slots:=[(4,.v .bool)],boxes:=[] }),(.exit 0,{ slots:=[],boxes:=[] })]
noncomputable def q70_L0 (t0:Ta13) (t1:Ta13) (t5:Int):Option (Ta103⊕(((Bool×Unit)×Unit)⊕((Unit×Unit)⊕Empty))) :=
bif (decide (t5 < (t0.len:Int))) then bif (decide (0≤t5)&&decide (t5 < (t0.len:Int))) then bif (decide (0≤t5)&&decide (t5 < (t1.len:Int))) then bif (!(f158 (L.get t0 t5.toNat) (L.get t1 t5.toNat))) then some (.inr (.inl ((false,()),()))) else some (.inl ((t0,(t1,((wI (t5 + (1:Int))),()))),())) else none else none else some (.inr (.inr (.inl ((),()))))
noncomputable def s70_L0 (x:Ta103):=q70_L0 x.1.1 x.1.2.1 x.1.2.2.1
noncomputable def a70:Nat→Option LoopAnn:=fun c=>bif Nat.beq c 0 then some (.fix h70_L0 e70_L0 s70_L0) else none
noncomputable def g70 (x0:Ta13) (x1:Ta13):Option ((Bool×Unit)×Unit) :=
bif ((x0.len:Int) != (x1.len:Int)) then some ((false,()),()) else (fixO s70_L0 ((x0,(x1,((0:Int),()))),())).bind fun d2=>match d2 with | .inl y1=>some ((y1.1.1,()),()) | .inr (.inl y1)=>some ((true,()),()) | .inr (.inr e)=>nomatch e
noncomputable def c70:Ctr:={ ins:=[.v Ty99,.v Ty99],out:=[.bool],F:=fun x=>g70 x.1 x.2.1 }
noncomputable def l70:List (Nat×Code):=loopsIn (Tryz.f70.body.getD .skip) 0
theorem w70_L0:LW t70 a70 l70 0 0 h70_L0 e70_L0 s70_L0:=fun x=>by kernel_rfl
theorem o70:Holds Tryz.prog 70 c70:=fh t70 a70 Tryz.func70 [(0,lg l70 0)] ⟨fun x d h=>(w70_L0 x).trans h,trivial⟩ (tc o158 tn)
noncomputable def t16:Tbl:=[(65,[],c65),(66,[],c66),(67,[],c67),(68,[],c68),(69,[],c69),(70,[],c70)]
noncomputable def g16 (x0:Ta176) (x1:Ta176):Option ((Bool×Unit)×Unit) :=
bif (x0.1 != x1.1) then some ((false,()),()) else bif (!(f65 x0.2.1 x1.2.1)) then some ((false,()),()) else bif (x0.2.2.1 != x1.2.2.1) then some ((false,()),()) else bif (!(f66 x0.2.2.2.1 x1.2.2.2.1)) then some ((false,()),()) else bif (x0.2.2.2.2.1 != x1.2.2.2.2.1) then some ((false,()),()) else bif (x0.2.2.2.2.2.1 != x1.2.2.2.2.2.1) then some ((false,()),()) else bif (x0.2.2.2.2.2.2.1 != x1.2.2.2.2.2.2.1) then some ((false,()),()) else (g67 x0.2.2.2.2.2.2.2.1 x1.2.2.2.2.2.2.2.1).bind fun y1=>bif (!y1.1.1) then some ((false,()),()) else (g68 x0.2.2.2.2.2.2.2.2.1 x1.2.2.2.2.2.2.2.2.1).bind fun y2=>bif (!y2.1.1) then some ((false,()),()) else (g69 x0.2.2.2.2.2.2.2.2.2.1 x1.2.2.2.2.2.2.2.2.2.1).bind fun y3=>bif (!y3.1.1) then some ((false,()),()) else (g70 x0.2.2.2.2.2.2.2.2.2.2.1 x1.2.2.2.2.2.2.2.2.2.2.1).bind fun y4=>bif (!y4.1.1) then some ((false,()),()) else some ((true,()),())
noncomputable def c16:Ctr:={ ins:=[.v Ty202,.v Ty202],out:=[.bool],F:=fun x=>g16 x.1 x.2.1 }
theorem o16:Holds Tryz.prog 16 c16:=f0 t16 Tryz.func16 (tc o65 (tc o66 (tc o67 (tc o68 (tc o69 (tc o70 tn))))))
noncomputable def t159:Tbl:=[]
abbrev h159_L0:Shape:={ slots:=[(0,.v (.int .i64)),(3,.v .str)],boxes:=[] }
abbrev e159_L0:List (XT×Shape):=[(.exit 0,{ slots:=[(3,.v .str)],boxes:=[] })]
noncomputable def q159_L0 (t0:Int) (t3:ByteArray):Option (((Int×(ByteArray×Unit))×Unit)⊕(((ByteArray×Unit)×Unit)⊕Empty)) :=
bif (decide (t0 > (0:Int))) then bif (Nat.ble ((strOfL (L.of (Ty.zero (.int .u8)) [(IntKind.wrap .u8 ((wI ((48:Int) + (Int.tmod t0 (10:Int))))))])).size + t3.size) 9223372036854775807) then some (.inl (((wI (Int.tdiv t0 (10:Int))),(((strOfL (L.of (Ty.zero (.int .u8)) [(IntKind.wrap .u8 ((wI ((48:Int) + (Int.tmod t0 (10:Int))))))])) ++ t3),())),())) else none else some (.inr (.inl ((t3,()),())))
noncomputable def s159_L0 (x:((Int×(ByteArray×Unit))×Unit)):=q159_L0 x.1.1 x.1.2.1
noncomputable def a159:Nat→Option LoopAnn:=fun c=>bif Nat.beq c 0 then some (.fix h159_L0 e159_L0 s159_L0) else none
noncomputable def g159 (x0:Int):Option ((ByteArray×Unit)×Unit) :=
bif (decide (x0≤(0:Int))) then some (((⟨#[109,48]⟩:ByteArray),()),()) else (fixO s159_L0 ((x0,((⟨#[]⟩:ByteArray),())),())).bind fun d2=>match d2 with | .inl y1=>bif (Nat.ble ((⟨#[109]⟩:ByteArray).size + y1.1.1.size) 9223372036854775807) then some ((((⟨#[109]⟩:ByteArray) ++ y1.1.1),()),()) else none | .inr e=>nomatch e
noncomputable def c159:Ctr:={ ins:=[.v (.int .i64)],out:=[.str],F:=fun x=>g159 x.1 }
noncomputable def l159:List (Nat×Code):=loopsIn (Tryz.f159.body.getD .skip) 0
theorem w159_L0:LW t159 a159 l159 0 0 h159_L0 e159_L0 s159_L0:=fun x=>by kernel_rfl
theorem o159:Holds Tryz.prog 159 c159:=fh t159 a159 Tryz.func159 [(0,lg l159 0)] ⟨fun x d h=>(w159_L0 x).trans h,trivial⟩ tn
noncomputable def t160w:Tbl:=[]
abbrev h160w_L0:Shape:={ slots:=[(0,.ms 200000000),(1,.v (.int .i64)),(5,.v (.int .i64))],boxes:=[(200000000,.row Ty93)] }
abbrev e160w_L0:List (XT×Shape):=[(.exit 0,{ slots:=[(1,.v (.int .i64))],boxes:=[(200000000,.row Ty93)] })]
noncomputable def q160w_L0 (t1:Int) (t5:Int) (r200000000:Ta13):Option (Ta89⊕(Ta66⊕Empty)) :=
bif (decide (t5 < (r200000000.len:Int))) then bif (decide (0≤t5)&&decide (t5 < (r200000000.len:Int))) then bif (decide (0≤t5)&&decide (t5 < ((L.upd r200000000 t5.toNat fun e=>(t1,e.2)).len:Int))) then bif (decide (0≤t5)&&decide (t5 < ((L.upd (L.upd r200000000 t5.toNat fun e=>(t1,e.2)) t5.toNat fun e=>(e.1,((wI (t1 + (1:Int))),e.2.2))).len:Int))) then some (.inl (((),((wI ((wI ((wI (t1 + (1:Int))) + (1:Int))) + (1:Int))),((wI (t5 + (1:Int))),()))),((L.upd (L.upd (L.upd r200000000 t5.toNat fun e=>(t1,e.2)) t5.toNat fun e=>(e.1,((wI (t1 + (1:Int))),e.2.2))) t5.toNat fun e=>(e.1,(e.2.1,((wI ((wI (t1 + (1:Int))) + (1:Int))),())))),()))) else none else none else none else some (.inr (.inl ((t1,()),(r200000000,()))))
noncomputable def s160w_L0 (x:Ta89):=q160w_L0 x.1.2.1 x.1.2.2.1 x.2.1
noncomputable def a160w:Nat→Option LoopAnn:=fun c=>bif Nat.beq c 0 then some (.fix h160w_L0 e160w_L0 s160w_L0) else none
noncomputable def g160w (x0:Ta13) (x1:Int):Option Ta66 :=
(fixO s160w_L0 (((),(x1,((0:Int),()))),(x0,()))).bind fun d2=>match d2 with | .inl y1=>some ((y1.1.1,()),(y1.2.1,())) | .inr e=>nomatch e
noncomputable def c160w:Ctr:={ ins:=[.ow Ty99,.v (.int .i64)],out:=[(.int .i64)],F:=fun x=>g160w x.1 x.2.1 }
noncomputable def l160w:List (Nat×Code):=loopsIn (Tryz.f160.body.getD .skip) 0
theorem w160w_L0:LW t160w a160w l160w 0 0 h160w_L0 e160w_L0 s160w_L0:=fun x=>by kernel_rfl
theorem o160w:Holds Tryz.prog 160 c160w:=fh t160w a160w Tryz.func160 [(0,lg l160w 0)] ⟨fun x d h=>(w160w_L0 x).trans h,trivial⟩ tn
noncomputable def t72w:Tbl:=[(159,[],c159),(160,[],c160w)]
abbrev h72w_L0:Shape:={ slots:=[(0,.ms 200000000),(1,.v (.int .i64)),(5,.v (.int .i64))],boxes:=[(200000000,.row Ty156)] }
abbrev e72w_L0:List (XT×Shape):=[(.exit 0,{ slots:=[(1,.v (.int .i64))],boxes:=[(200000000,.row Ty156)] })]
noncomputable def q72w_L0 (t1:Int) (t5:Int) (r200000000:Ta102):Option (((Unit×(Int×(Int×Unit)))×Ta110)⊕(((Int×Unit)×Ta110)⊕Empty)) :=
bif (decide (t5 < (r200000000.len:Int))) then (g159 t1).bind fun y1=>bif (decide (0≤t5)&&decide (t5 < (r200000000.len:Int))) then bif (decide (0≤t5)&&decide (t5 < ((L.upd r200000000 t5.toNat fun e=>(y1.1.1,e.2)).len:Int))) then bif (decide (0≤t5)&&decide (t5 < ((L.upd (L.upd r200000000 t5.toNat fun e=>(y1.1.1,e.2)) t5.toNat fun e=>(e.1,((wI (t1 + (1:Int))),e.2.2))).len:Int))) then bif (decide (0≤t5)&&decide (t5 < ((L.upd (L.upd (L.upd r200000000 t5.toNat fun e=>(y1.1.1,e.2)) t5.toNat fun e=>(e.1,((wI (t1 + (1:Int))),e.2.2))) t5.toNat fun e=>(e.1,(e.2.1,(((wI ((wI (t1 + (1:Int))) + (1:Int))),e.2.2.1.2),e.2.2.2)))).len:Int))) then bif (decide (0≤t5)&&decide (t5 < ((L.upd (L.upd (L.upd (L.upd r200000000 t5.toNat fun e=>(y1.1.1,e.2)) t5.toNat fun e=>(e.1,((wI (t1 + (1:Int))),e.2.2))) t5.toNat fun e=>(e.1,(e.2.1,(((wI ((wI (t1 + (1:Int))) + (1:Int))),e.2.2.1.2),e.2.2.2)))) t5.toNat fun e=>(e.1,(e.2.1,((e.2.2.1.1,((wI ((wI ((wI (t1 + (1:Int))) + (1:Int))) + (1:Int))),())),e.2.2.2)))).len:Int))) then (g160w (L.get (L.upd (L.upd (L.upd (L.upd r200000000 t5.toNat fun e=>(y1.1.1,e.2)) t5.toNat fun e=>(e.1,((wI (t1 + (1:Int))),e.2.2))) t5.toNat fun e=>(e.1,(e.2.1,(((wI ((wI (t1 + (1:Int))) + (1:Int))),e.2.2.1.2),e.2.2.2)))) t5.toNat fun e=>(e.1,(e.2.1,((e.2.2.1.1,((wI ((wI ((wI (t1 + (1:Int))) + (1:Int))) + (1:Int))),())),e.2.2.2)))) t5.toNat).2.2.2.1 (wI ((wI ((wI ((wI (t1 + (1:Int))) + (1:Int))) + (1:Int))) + (1:Int)))).bind fun y2=>some (.inl (((),(y2.1.1,((wI (t5 + (1:Int))),()))),((L.upd (L.upd (L.upd (L.upd (L.upd r200000000 t5.toNat fun e=>(y1.1.1,e.2)) t5.toNat fun e=>(e.1,((wI (t1 + (1:Int))),e.2.2))) t5.toNat fun e=>(e.1,(e.2.1,(((wI ((wI (t1 + (1:Int))) + (1:Int))),e.2.2.1.2),e.2.2.2)))) t5.toNat fun e=>(e.1,(e.2.1,((e.2.2.1.1,((wI ((wI ((wI (t1 + (1:Int))) + (1:Int))) + (1:Int))),())),e.2.2.2)))) t5.toNat fun e=>(e.1,(e.2.1,(e.2.2.1,(y2.2.1,e.2.2.2.2))))),()))) else none else none else none else none else none else some (.inr (.inl ((t1,()),(r200000000,()))))
noncomputable def s72w_L0 (x:((Unit×(Int×(Int×Unit)))×Ta110)):=q72w_L0 x.1.2.1 x.1.2.2.1 x.2.1
noncomputable def a72w:Nat→Option LoopAnn:=fun c=>bif Nat.beq c 0 then some (.fix h72w_L0 e72w_L0 s72w_L0) else none
noncomputable def g72w (x0:Ta102) (x1:Int):Option ((Int×Unit)×Ta110) :=
(fixO s72w_L0 (((),(x1,((0:Int),()))),(x0,()))).bind fun d4=>match d4 with | .inl y3=>some ((y3.1.1,()),(y3.2.1,())) | .inr e=>nomatch e
noncomputable def c72w:Ctr:={ ins:=[.ow Ty159,.v (.int .i64)],out:=[(.int .i64)],F:=fun x=>g72w x.1 x.2.1 }
noncomputable def l72w:List (Nat×Code):=loopsIn (Tryz.f72.body.getD .skip) 0
theorem w72w_L0:LW t72w a72w l72w 0 0 h72w_L0 e72w_L0 s72w_L0:=fun x=>by kernel_rfl
theorem o72w:Holds Tryz.prog 72 c72w:=fh t72w a72w Tryz.func72 [(0,lg l72w 0)] ⟨fun x d h=>(w72w_L0 x).trans h,trivial⟩ (tc o159 (tc o160w tn))
noncomputable def t73w:Tbl:=[]
abbrev h73w_L0:Shape:={ slots:=[(0,.ms 200000000),(1,.v (.int .i64)),(5,.v (.int .i64))],boxes:=[(200000000,.row (.int .i64))] }
abbrev e73w_L0:List (XT×Shape):=[(.exit 0,{ slots:=[(1,.v (.int .i64))],boxes:=[(200000000,.row (.int .i64))] })]
noncomputable def q73w_L0 (t1:Int) (t5:Int) (r200000000:(L Int)):Option (Ta55⊕(Ta16⊕Empty)) :=
bif (decide (t5 < (r200000000.len:Int))) then bif (decide (0≤t5)&&decide (t5 < (r200000000.len:Int))) then some (.inl (((),((wI (t1 + (1:Int))),((wI (t5 + (1:Int))),()))),((L.set r200000000 t5.toNat t1),()))) else none else some (.inr (.inl ((t1,()),(r200000000,()))))
noncomputable def s73w_L0 (x:Ta55):=q73w_L0 x.1.2.1 x.1.2.2.1 x.2.1
noncomputable def a73w:Nat→Option LoopAnn:=fun c=>bif Nat.beq c 0 then some (.fix h73w_L0 e73w_L0 s73w_L0) else none
noncomputable def g73w (x0:(L Int)) (x1:Int):Option Ta16 :=
(fixO s73w_L0 (((),(x1,((0:Int),()))),(x0,()))).bind fun d2=>match d2 with | .inl y1=>some ((y1.1.1,()),(y1.2.1,())) | .inr e=>nomatch e
noncomputable def c73w:Ctr:={ ins:=[.ow (.sl (.int .i64)),.v (.int .i64)],out:=[(.int .i64)],F:=fun x=>g73w x.1 x.2.1 }
noncomputable def l73w:List (Nat×Code):=loopsIn (Tryz.f73.body.getD .skip) 0
theorem w73w_L0:LW t73w a73w l73w 0 0 h73w_L0 e73w_L0 s73w_L0:=fun x=>by kernel_rfl
theorem o73w:Holds Tryz.prog 73 c73w:=fh t73w a73w Tryz.func73 [(0,lg l73w 0)] ⟨fun x d h=>(w73w_L0 x).trans h,trivial⟩ tn
noncomputable def t74w:Tbl:=[]
abbrev h74w_L0:Shape:={ slots:=[(0,.ms 200000000),(1,.v (.int .i64)),(5,.v (.int .i64))],boxes:=[(200000000,.row Ty116)] }
abbrev e74w_L0:List (XT×Shape):=[(.exit 0,{ slots:=[(1,.v (.int .i64))],boxes:=[(200000000,.row Ty116)] })]
noncomputable def q74w_L0 (t1:Int) (t5:Int) (r200000000:Ta32):Option (((Unit×(Int×(Int×Unit)))×Ta49)⊕(((Int×Unit)×Ta49)⊕Empty)) :=
bif (decide (t5 < (r200000000.len:Int))) then bif (decide (0≤t5)&&decide (t5 < (r200000000.len:Int))) then bif (decide (0≤t5)&&decide (t5 < ((L.upd r200000000 t5.toNat fun e=>(t1,e.2)).len:Int))) then bif (decide (0≤t5)&&decide (t5 < ((L.upd (L.upd r200000000 t5.toNat fun e=>(t1,e.2)) t5.toNat fun e=>(e.1,((wI (t1 + (1:Int))),e.2.2))).len:Int))) then bif (decide (0≤t5)&&decide (t5 < ((L.upd (L.upd (L.upd r200000000 t5.toNat fun e=>(t1,e.2)) t5.toNat fun e=>(e.1,((wI (t1 + (1:Int))),e.2.2))) t5.toNat fun e=>(e.1,(e.2.1,((wI ((wI (t1 + (1:Int))) + (1:Int))),e.2.2.2)))).len:Int))) then some (.inl (((),((wI ((wI ((wI ((wI (t1 + (1:Int))) + (1:Int))) + (1:Int))) + (1:Int))),((wI (t5 + (1:Int))),()))),((L.upd (L.upd (L.upd (L.upd r200000000 t5.toNat fun e=>(t1,e.2)) t5.toNat fun e=>(e.1,((wI (t1 + (1:Int))),e.2.2))) t5.toNat fun e=>(e.1,(e.2.1,((wI ((wI (t1 + (1:Int))) + (1:Int))),e.2.2.2)))) t5.toNat fun e=>(e.1,(e.2.1,(e.2.2.1,((wI ((wI ((wI (t1 + (1:Int))) + (1:Int))) + (1:Int))),()))))),()))) else none else none else none else none else some (.inr (.inl ((t1,()),(r200000000,()))))
noncomputable def s74w_L0 (x:((Unit×(Int×(Int×Unit)))×Ta49)):=q74w_L0 x.1.2.1 x.1.2.2.1 x.2.1
noncomputable def a74w:Nat→Option LoopAnn:=fun c=>bif Nat.beq c 0 then some (.fix h74w_L0 e74w_L0 s74w_L0) else none
noncomputable def g74w (x0:Ta32) (x1:Int):Option ((Int×Unit)×Ta49) :=
(fixO s74w_L0 (((),(x1,((0:Int),()))),(x0,()))).bind fun d2=>match d2 with | .inl y1=>some ((y1.1.1,()),(y1.2.1,())) | .inr e=>nomatch e
noncomputable def c74w:Ctr:={ ins:=[.ow Ty118,.v (.int .i64)],out:=[(.int .i64)],F:=fun x=>g74w x.1 x.2.1 }
noncomputable def l74w:List (Nat×Code):=loopsIn (Tryz.f74.body.getD .skip) 0
theorem w74w_L0:LW t74w a74w l74w 0 0 h74w_L0 e74w_L0 s74w_L0:=fun x=>by kernel_rfl
theorem o74w:Holds Tryz.prog 74 c74w:=fh t74w a74w Tryz.func74 [(0,lg l74w 0)] ⟨fun x d h=>(w74w_L0 x).trans h,trivial⟩ tn
noncomputable def t75w:Tbl:=[]
abbrev h75w_L0:Shape:={ slots:=[(0,.ms 200000000),(1,.v (.int .i64)),(5,.v (.int .i64))],boxes:=[(200000000,.row Ty93)] }
abbrev e75w_L0:List (XT×Shape):=[(.exit 0,{ slots:=[(1,.v (.int .i64))],boxes:=[(200000000,.row Ty93)] })]
noncomputable def q75w_L0 (t1:Int) (t5:Int) (r200000000:Ta13):Option (Ta89⊕(Ta66⊕Empty)) :=
bif (decide (t5 < (r200000000.len:Int))) then bif (decide (0≤t5)&&decide (t5 < (r200000000.len:Int))) then bif (decide (0≤t5)&&decide (t5 < ((L.upd r200000000 t5.toNat fun e=>(t1,e.2)).len:Int))) then bif (decide (0≤t5)&&decide (t5 < ((L.upd (L.upd r200000000 t5.toNat fun e=>(t1,e.2)) t5.toNat fun e=>(e.1,((wI (t1 + (1:Int))),e.2.2))).len:Int))) then some (.inl (((),((wI ((wI ((wI (t1 + (1:Int))) + (1:Int))) + (1:Int))),((wI (t5 + (1:Int))),()))),((L.upd (L.upd (L.upd r200000000 t5.toNat fun e=>(t1,e.2)) t5.toNat fun e=>(e.1,((wI (t1 + (1:Int))),e.2.2))) t5.toNat fun e=>(e.1,(e.2.1,((wI ((wI (t1 + (1:Int))) + (1:Int))),())))),()))) else none else none else none else some (.inr (.inl ((t1,()),(r200000000,()))))
noncomputable def s75w_L0 (x:Ta89):=q75w_L0 x.1.2.1 x.1.2.2.1 x.2.1
noncomputable def a75w:Nat→Option LoopAnn:=fun c=>bif Nat.beq c 0 then some (.fix h75w_L0 e75w_L0 s75w_L0) else none
noncomputable def g75w (x0:Ta13) (x1:Int):Option Ta66 :=
(fixO s75w_L0 (((),(x1,((0:Int),()))),(x0,()))).bind fun d2=>match d2 with | .inl y1=>some ((y1.1.1,()),(y1.2.1,())) | .inr e=>nomatch e
noncomputable def c75w:Ctr:={ ins:=[.ow Ty99,.v (.int .i64)],out:=[(.int .i64)],F:=fun x=>g75w x.1 x.2.1 }
noncomputable def l75w:List (Nat×Code):=loopsIn (Tryz.f75.body.getD .skip) 0
theorem w75w_L0:LW t75w a75w l75w 0 0 h75w_L0 e75w_L0 s75w_L0:=fun x=>by kernel_rfl
theorem o75w:Holds Tryz.prog 75 c75w:=fh t75w a75w Tryz.func75 [(0,lg l75w 0)] ⟨fun x d h=>(w75w_L0 x).trans h,trivial⟩ tn
noncomputable def t18w:Tbl:=[(72,[],c72w),(73,[],c73w),(74,[],c74w),(75,[],c75w)]
noncomputable def g18w (x0:Ta176) (x1:Int):Option ((Int×Unit)×Ta178) :=
(g72w x0.2.2.2.2.2.2.2.1 x1).bind fun y1=>(g73w x0.2.2.2.2.2.2.2.2.1 y1.1.1).bind fun y2=>(g74w x0.2.2.2.2.2.2.2.2.2.1 y2.1.1).bind fun y3=>(g75w x0.2.2.2.2.2.2.2.2.2.2.1 y3.1.1).bind fun y4=>some ((y4.1.1,()),(((Ty.zero (.int .i64)),(((Ty.zero (.int .i64)),((Ty.zero (.int .i64)),((Ty.zero (.int .i64)),(Ty.zero .unit)))),((Ty.zero (.int .i64)),(((Ty.zero (.int .i64)),((Ty.zero (.int .i64)),((Ty.zero (.int .i64)),((Ty.zero (.int .i64)),((Ty.zero (.int .i64)),((Ty.zero (.int .i64)),((Ty.zero (.int .i64)),(Ty.zero .unit)))))))),((Ty.zero (.int .i64)),((Ty.zero (.int .i64)),((Ty.zero (.int .i64)),(y1.2.1,(y2.2.1,(y3.2.1,(y4.2.1,(Ty.zero .unit)))))))))))),()))
noncomputable def c18w:Ctr:={ ins:=[.ow Ty202,.v (.int .i64)],out:=[(.int .i64)],F:=fun x=>g18w x.1 x.2.1 }
theorem o18w:Holds Tryz.prog 18 c18w:=f0 t18w Tryz.func18 (tc o72w (tc o73w (tc o74w (tc o75w tn))))
noncomputable def t76w:Tbl:=[]
abbrev h76w_L0:Shape:={ slots:=[(0,.ms 200000000),(1,.v (.int .i64)),(5,.v (.int .i64))],boxes:=[(200000000,.row (.int .u8))] }
abbrev e76w_L0:List (XT×Shape):=[(.exit 0,{ slots:=[(1,.v (.int .i64))],boxes:=[(200000000,.row (.int .u8))] })]
noncomputable def q76w_L0 (t1:Int) (t5:Int) (r200000000:(L Int)):Option (Ta55⊕(Ta16⊕Empty)) :=
bif (decide (t5 < (r200000000.len:Int))) then bif (decide (0≤t5)&&decide (t5 < (r200000000.len:Int))) then some (.inl (((),((wI (t1 + (1:Int))),((wI (t5 + (1:Int))),()))),((L.set r200000000 t5.toNat (IntKind.wrap .u8 (t1))),()))) else none else some (.inr (.inl ((t1,()),(r200000000,()))))
noncomputable def s76w_L0 (x:Ta55):=q76w_L0 x.1.2.1 x.1.2.2.1 x.2.1
noncomputable def a76w:Nat→Option LoopAnn:=fun c=>bif Nat.beq c 0 then some (.fix h76w_L0 e76w_L0 s76w_L0) else none
noncomputable def g76w (x0:(L Int)) (x1:Int):Option Ta16 :=
(fixO s76w_L0 (((),(x1,((0:Int),()))),(x0,()))).bind fun d2=>match d2 with | .inl y1=>some ((y1.1.1,()),(y1.2.1,())) | .inr e=>nomatch e
noncomputable def c76w:Ctr:={ ins:=[.ow (.sl (.int .u8)),.v (.int .i64)],out:=[(.int .i64)],F:=fun x=>g76w x.1 x.2.1 }
noncomputable def l76w:List (Nat×Code):=loopsIn (Tryz.f76.body.getD .skip) 0
theorem w76w_L0:LW t76w a76w l76w 0 0 h76w_L0 e76w_L0 s76w_L0:=fun x=>by kernel_rfl
theorem o76w:Holds Tryz.prog 76 c76w:=fh t76w a76w Tryz.func76 [(0,lg l76w 0)] ⟨fun x d h=>(w76w_L0 x).trans h,trivial⟩ tn
noncomputable def t19w:Tbl:=[(76,[],c76w)]
abbrev h19w_L0:Shape:={ slots:=[(0,.ms 200000000),(1,.v (.int .i64)),(5,.v (.int .i64))],boxes:=[(200000000,.row (.sl (.int .u8)))] }
abbrev e19w_L0:List (XT×Shape):=[(.exit 0,{ slots:=[(1,.v (.int .i64))],boxes:=[(200000000,.row (.sl (.int .u8)))] })]
noncomputable def q19w_L0 (t1:Int) (t5:Int) (r200000000:(L (L Int))):Option (((Unit×(Int×(Int×Unit)))×((L (L Int))×Unit))⊕(((Int×Unit)×((L (L Int))×Unit))⊕Empty)) :=
bif (decide (t5 < (r200000000.len:Int))) then bif (decide (0≤t5)&&decide (t5 < (r200000000.len:Int))) then (g76w (L.get r200000000 t5.toNat) t1).bind fun y1=>some (.inl (((),(y1.1.1,((wI (t5 + (1:Int))),()))),((L.upd r200000000 t5.toNat fun e=>y1.2.1),()))) else none else some (.inr (.inl ((t1,()),(r200000000,()))))
noncomputable def s19w_L0 (x:((Unit×(Int×(Int×Unit)))×((L (L Int))×Unit))):=q19w_L0 x.1.2.1 x.1.2.2.1 x.2.1
noncomputable def a19w:Nat→Option LoopAnn:=fun c=>bif Nat.beq c 0 then some (.fix h19w_L0 e19w_L0 s19w_L0) else none
noncomputable def g19w (x0:(L (L Int))) (x1:Int):Option ((Int×Unit)×((L (L Int))×Unit)) :=
(fixO s19w_L0 (((),(x1,((0:Int),()))),(x0,()))).bind fun d3=>match d3 with | .inl y2=>some ((y2.1.1,()),(y2.2.1,())) | .inr e=>nomatch e
noncomputable def c19w:Ctr:={ ins:=[.ow (.sl (.sl (.int .u8))),.v (.int .i64)],out:=[(.int .i64)],F:=fun x=>g19w x.1 x.2.1 }
noncomputable def l19w:List (Nat×Code):=loopsIn (Tryz.f19.body.getD .skip) 0
theorem w19w_L0:LW t19w a19w l19w 0 0 h19w_L0 e19w_L0 s19w_L0:=fun x=>by kernel_rfl
theorem o19w:Holds Tryz.prog 19 c19w:=fh t19w a19w Tryz.func19 [(0,lg l19w 0)] ⟨fun x d h=>(w19w_L0 x).trans h,trivial⟩ (tc o76w tn)
noncomputable def t161w:Tbl:=[]
abbrev h161w_L0:Shape:={ slots:=[(0,.ms 200000000),(1,.v (.int .i64)),(5,.v (.int .i64))],boxes:=[(200000000,.row (.int .u32))] }
abbrev e161w_L0:List (XT×Shape):=[(.exit 0,{ slots:=[(1,.v (.int .i64))],boxes:=[(200000000,.row (.int .u32))] })]
noncomputable def q161w_L0 (t1:Int) (t5:Int) (r200000000:(L Int)):Option (Ta55⊕(Ta16⊕Empty)) :=
bif (decide (t5 < (r200000000.len:Int))) then bif (decide (0≤t5)&&decide (t5 < (r200000000.len:Int))) then some (.inl (((),((wI (t1 + (1:Int))),((wI (t5 + (1:Int))),()))),((L.set r200000000 t5.toNat (IntKind.wrap .u32 (t1))),()))) else none else some (.inr (.inl ((t1,()),(r200000000,()))))
noncomputable def s161w_L0 (x:Ta55):=q161w_L0 x.1.2.1 x.1.2.2.1 x.2.1
noncomputable def a161w:Nat→Option LoopAnn:=fun c=>bif Nat.beq c 0 then some (.fix h161w_L0 e161w_L0 s161w_L0) else none
noncomputable def g161w (x0:(L Int)) (x1:Int):Option Ta16 :=
(fixO s161w_L0 (((),(x1,((0:Int),()))),(x0,()))).bind fun d2=>match d2 with | .inl y1=>some ((y1.1.1,()),(y1.2.1,())) | .inr e=>nomatch e
noncomputable def c161w:Ctr:={ ins:=[.ow (.sl (.int .u32)),.v (.int .i64)],out:=[(.int .i64)],F:=fun x=>g161w x.1 x.2.1 }
noncomputable def l161w:List (Nat×Code):=loopsIn (Tryz.f161.body.getD .skip) 0
theorem w161w_L0:LW t161w a161w l161w 0 0 h161w_L0 e161w_L0 s161w_L0:=fun x=>by kernel_rfl
theorem o161w:Holds Tryz.prog 161 c161w:=fh t161w a161w Tryz.func161 [(0,lg l161w 0)] ⟨fun x d h=>(w161w_L0 x).trans h,trivial⟩ tn
noncomputable def t77w:Tbl:=[(161,[],c161w),(19,[],c19w)]
noncomputable def g77w (x0:Ta39) (x1:Int):Option ((Int×Unit)×Ta56) :=
(g161w x0.1 x1).bind fun y1=>(g19w x0.2.2.1 y1.1.1).bind fun y2=>some ((y2.1.1,()),((y1.2.1,((Ty.zero (.int .u32)),(y2.2.1,(Ty.zero .unit)))),()))
noncomputable def c77w:Ctr:={ ins:=[.ow Ty112,.v (.int .i64)],out:=[(.int .i64)],F:=fun x=>g77w x.1 x.2.1 }
theorem o77w:Holds Tryz.prog 77 c77w:=f0 t77w Tryz.func77 (tc o161w (tc o19w tn))
noncomputable def t245w:Tbl:=[]
abbrev h245w_L0:Shape:={ slots:=[(0,.ms 200000000),(1,.v (.int .i64)),(5,.v (.int .i64))],boxes:=[(200000000,.row Ty48)] }
abbrev e245w_L0:List (XT×Shape):=[(.exit 0,{ slots:=[(1,.v (.int .i64))],boxes:=[(200000000,.row Ty48)] })]
noncomputable def q245w_L0 (t1:Int) (t5:Int) (r200000000:(L (Int×(Bool×Unit)))):Option (((Unit×(Int×(Int×Unit)))×Ta20)⊕(((Int×Unit)×Ta20)⊕Empty)) :=
bif (decide (t5 < (r200000000.len:Int))) then bif (decide (0≤t5)&&decide (t5 < (r200000000.len:Int))) then bif (decide (0≤t5)&&decide (t5 < ((L.upd r200000000 t5.toNat fun e=>(t1,e.2)).len:Int))) then some (.inl (((),((wI ((wI (t1 + (1:Int))) + (1:Int))),((wI (t5 + (1:Int))),()))),((L.upd (L.upd r200000000 t5.toNat fun e=>(t1,e.2)) t5.toNat fun e=>(e.1,(((Int.tmod (wI (t1 + (1:Int))) (3:Int)) == (0:Int)),()))),()))) else none else none else some (.inr (.inl ((t1,()),(r200000000,()))))
noncomputable def s245w_L0 (x:((Unit×(Int×(Int×Unit)))×Ta20)):=q245w_L0 x.1.2.1 x.1.2.2.1 x.2.1
noncomputable def a245w:Nat→Option LoopAnn:=fun c=>bif Nat.beq c 0 then some (.fix h245w_L0 e245w_L0 s245w_L0) else none
noncomputable def g245w (x0:(L (Int×(Bool×Unit)))) (x1:Int):Option ((Int×Unit)×Ta20) :=
(fixO s245w_L0 (((),(x1,((0:Int),()))),(x0,()))).bind fun d2=>match d2 with | .inl y1=>some ((y1.1.1,()),(y1.2.1,())) | .inr e=>nomatch e
noncomputable def c245w:Ctr:={ ins:=[.ow Ty60,.v (.int .i64)],out:=[(.int .i64)],F:=fun x=>g245w x.1 x.2.1 }
noncomputable def l245w:List (Nat×Code):=loopsIn (Tryz.f245.body.getD .skip) 0
theorem w245w_L0:LW t245w a245w l245w 0 0 h245w_L0 e245w_L0 s245w_L0:=fun x=>by kernel_rfl
theorem o245w:Holds Tryz.prog 245 c245w:=fh t245w a245w Tryz.func245 [(0,lg l245w 0)] ⟨fun x d h=>(w245w_L0 x).trans h,trivial⟩ tn
noncomputable def t162w:Tbl:=[(245,[],c245w)]
abbrev h162w_L0:Shape:={ slots:=[(0,.ms 200000000),(1,.v (.int .i64)),(5,.v (.int .i64))],boxes:=[(200000000,.row Ty60)] }
abbrev e162w_L0:List (XT×Shape):=[(.exit 0,{ slots:=[(1,.v (.int .i64))],boxes:=[(200000000,.row Ty60)] })]
noncomputable def q162w_L0 (t1:Int) (t5:Int) (r200000000:Ta9):Option (((Unit×(Int×(Int×Unit)))×Ta34)⊕(((Int×Unit)×Ta34)⊕Empty)) :=
bif (decide (t5 < (r200000000.len:Int))) then bif (decide (0≤t5)&&decide (t5 < (r200000000.len:Int))) then (g245w (L.get r200000000 t5.toNat) t1).bind fun y1=>some (.inl (((),(y1.1.1,((wI (t5 + (1:Int))),()))),((L.upd r200000000 t5.toNat fun e=>y1.2.1),()))) else none else some (.inr (.inl ((t1,()),(r200000000,()))))
noncomputable def s162w_L0 (x:((Unit×(Int×(Int×Unit)))×Ta34)):=q162w_L0 x.1.2.1 x.1.2.2.1 x.2.1
noncomputable def a162w:Nat→Option LoopAnn:=fun c=>bif Nat.beq c 0 then some (.fix h162w_L0 e162w_L0 s162w_L0) else none
noncomputable def g162w (x0:Ta9) (x1:Int):Option ((Int×Unit)×Ta34) :=
(fixO s162w_L0 (((),(x1,((0:Int),()))),(x0,()))).bind fun d3=>match d3 with | .inl y2=>some ((y2.1.1,()),(y2.2.1,())) | .inr e=>nomatch e
noncomputable def c162w:Ctr:={ ins:=[.ow Ty72,.v (.int .i64)],out:=[(.int .i64)],F:=fun x=>g162w x.1 x.2.1 }
noncomputable def l162w:List (Nat×Code):=loopsIn (Tryz.f162.body.getD .skip) 0
theorem w162w_L0:LW t162w a162w l162w 0 0 h162w_L0 e162w_L0 s162w_L0:=fun x=>by kernel_rfl
theorem o162w:Holds Tryz.prog 162 c162w:=fh t162w a162w Tryz.func162 [(0,lg l162w 0)] ⟨fun x d h=>(w162w_L0 x).trans h,trivial⟩ (tc o245w tn)
noncomputable def t78w:Tbl:=[(162,[],c162w)]
noncomputable def g78w (x0:Ta85) (x1:Int):Option ((Int×Unit)×Ta92) :=
(g162w x0.2.1 x1).bind fun y1=>some ((y1.1.1,()),((((Ty.zero (.int .i64)),((Ty.zero (.int .i64)),((Ty.zero (.int .i64)),(Ty.zero .unit)))),(y1.2.1,(Ty.zero .unit))),()))
noncomputable def c78w:Ctr:={ ins:=[.ow Ty142,.v (.int .i64)],out:=[(.int .i64)],F:=fun x=>g78w x.1 x.2.1 }
theorem o78w:Holds Tryz.prog 78 c78w:=f0 t78w Tryz.func78 (tc o162w tn)
noncomputable def t79w:Tbl:=[(73,[],c73w)]
noncomputable def g79w (x0:(Int×((L Int)×Unit))) (x1:Int):Option ((Int×Unit)×((Int×((L Int)×Unit))×Unit)) :=
(g73w x0.2.1 x1).bind fun y1=>some ((y1.1.1,()),(((Ty.zero (.int .i64)),(y1.2.1,(Ty.zero .unit))),()))
noncomputable def c79w:Ctr:={ ins:=[.ow Ty73,.v (.int .i64)],out:=[(.int .i64)],F:=fun x=>g79w x.1 x.2.1 }
theorem o79w:Holds Tryz.prog 79 c79w:=f0 t79w Tryz.func79 (tc o73w tn)
noncomputable def t80w:Tbl:=[(161,[],c161w)]
abbrev h80w_L0:Shape:={ slots:=[(0,.ms 200000000),(1,.v (.int .i64)),(5,.v (.int .i64))],boxes:=[(200000000,.row Ty71)] }
abbrev e80w_L0:List (XT×Shape):=[(.exit 0,{ slots:=[(1,.v (.int .i64))],boxes:=[(200000000,.row Ty71)] })]
noncomputable def q80w_L0 (t1:Int) (t5:Int) (r200000000:Ta3):Option (((Unit×(Int×(Int×Unit)))×Ta31)⊕(((Int×Unit)×Ta31)⊕Empty)) :=
bif (decide (t5 < (r200000000.len:Int))) then bif (decide (0≤t5)&&decide (t5 < (r200000000.len:Int))) then bif (decide (0≤t5)&&decide (t5 < ((L.upd r200000000 t5.toNat fun e=>(t1,e.2)).len:Int))) then (g161w (L.get (L.upd r200000000 t5.toNat fun e=>(t1,e.2)) t5.toNat).2.1 (wI (t1 + (1:Int)))).bind fun y1=>some (.inl (((),(y1.1.1,((wI (t5 + (1:Int))),()))),((L.upd (L.upd r200000000 t5.toNat fun e=>(t1,e.2)) t5.toNat fun e=>(e.1,(y1.2.1,e.2.2))),()))) else none else none else some (.inr (.inl ((t1,()),(r200000000,()))))
noncomputable def s80w_L0 (x:((Unit×(Int×(Int×Unit)))×Ta31)):=q80w_L0 x.1.2.1 x.1.2.2.1 x.2.1
noncomputable def a80w:Nat→Option LoopAnn:=fun c=>bif Nat.beq c 0 then some (.fix h80w_L0 e80w_L0 s80w_L0) else none
noncomputable def g80w (x0:Ta3) (x1:Int):Option ((Int×Unit)×Ta31) :=
(fixO s80w_L0 (((),(x1,((0:Int),()))),(x0,()))).bind fun d3=>match d3 with | .inl y2=>some ((y2.1.1,()),(y2.2.1,())) | .inr e=>nomatch e
noncomputable def c80w:Ctr:={ ins:=[.ow Ty86,.v (.int .i64)],out:=[(.int .i64)],F:=fun x=>g80w x.1 x.2.1 }
noncomputable def l80w:List (Nat×Code):=loopsIn (Tryz.f80.body.getD .skip) 0
theorem w80w_L0:LW t80w a80w l80w 0 0 h80w_L0 e80w_L0 s80w_L0:=fun x=>by kernel_rfl
theorem o80w:Holds Tryz.prog 80 c80w:=fh t80w a80w Tryz.func80 [(0,lg l80w 0)] ⟨fun x d h=>(w80w_L0 x).trans h,trivial⟩ (tc o161w tn)
noncomputable def t81w:Tbl:=[(161,[],c161w)]
abbrev h81w_L0:Shape:={ slots:=[(0,.ms 200000000),(1,.v (.int .i64)),(5,.v (.int .i64))],boxes:=[(200000000,.row Ty27)] }
abbrev e81w_L0:List (XT×Shape):=[(.exit 0,{ slots:=[(1,.v (.int .i64))],boxes:=[(200000000,.row Ty27)] })]
noncomputable def q81w_L0 (t1:Int) (t5:Int) (r200000000:(L ((L Int)×Unit))):Option (((Unit×(Int×(Int×Unit)))×Ta12)⊕(((Int×Unit)×Ta12)⊕Empty)) :=
bif (decide (t5 < (r200000000.len:Int))) then bif (decide (0≤t5)&&decide (t5 < (r200000000.len:Int))) then (g161w (L.get r200000000 t5.toNat).1 t1).bind fun y1=>some (.inl (((),(y1.1.1,((wI (t5 + (1:Int))),()))),((L.upd r200000000 t5.toNat fun e=>(y1.2.1,e.2)),()))) else none else some (.inr (.inl ((t1,()),(r200000000,()))))
noncomputable def s81w_L0 (x:((Unit×(Int×(Int×Unit)))×Ta12)):=q81w_L0 x.1.2.1 x.1.2.2.1 x.2.1
noncomputable def a81w:Nat→Option LoopAnn:=fun c=>bif Nat.beq c 0 then some (.fix h81w_L0 e81w_L0 s81w_L0) else none
noncomputable def g81w (x0:(L ((L Int)×Unit))) (x1:Int):Option ((Int×Unit)×Ta12) :=
(fixO s81w_L0 (((),(x1,((0:Int),()))),(x0,()))).bind fun d3=>match d3 with | .inl y2=>some ((y2.1.1,()),(y2.2.1,())) | .inr e=>nomatch e
noncomputable def c81w:Ctr:={ ins:=[.ow Ty45,.v (.int .i64)],out:=[(.int .i64)],F:=fun x=>g81w x.1 x.2.1 }
noncomputable def l81w:List (Nat×Code):=loopsIn (Tryz.f81.body.getD .skip) 0
theorem w81w_L0:LW t81w a81w l81w 0 0 h81w_L0 e81w_L0 s81w_L0:=fun x=>by kernel_rfl
theorem o81w:Holds Tryz.prog 81 c81w:=fh t81w a81w Tryz.func81 [(0,lg l81w 0)] ⟨fun x d h=>(w81w_L0 x).trans h,trivial⟩ (tc o161w tn)
noncomputable def t82w:Tbl:=[(161,[],c161w)]
abbrev h82w_L0:Shape:={ slots:=[(0,.ms 200000000),(1,.v (.int .i64)),(5,.v (.int .i64))],boxes:=[(200000000,.row Ty84)] }
abbrev e82w_L0:List (XT×Shape):=[(.exit 0,{ slots:=[(1,.v (.int .i64))],boxes:=[(200000000,.row Ty84)] })]
noncomputable def q82w_L0 (t1:Int) (t5:Int) (r200000000:Ta19):Option (((Unit×(Int×(Int×Unit)))×Ta40)⊕(((Int×Unit)×Ta40)⊕Empty)) :=
bif (decide (t5 < (r200000000.len:Int))) then bif (decide (0≤t5)&&decide (t5 < (r200000000.len:Int))) then (g161w (L.get r200000000 t5.toNat).1 t1).bind fun y1=>bif (decide (0≤t5)&&decide (t5 < ((L.upd r200000000 t5.toNat fun e=>(y1.2.1,e.2)).len:Int))) then (g161w (L.get (L.upd r200000000 t5.toNat fun e=>(y1.2.1,e.2)) t5.toNat).2.1 y1.1.1).bind fun y2=>some (.inl (((),(y2.1.1,((wI (t5 + (1:Int))),()))),((L.upd (L.upd r200000000 t5.toNat fun e=>(y1.2.1,e.2)) t5.toNat fun e=>(e.1,(y2.2.1,e.2.2))),()))) else none else none else some (.inr (.inl ((t1,()),(r200000000,()))))
noncomputable def s82w_L0 (x:((Unit×(Int×(Int×Unit)))×Ta40)):=q82w_L0 x.1.2.1 x.1.2.2.1 x.2.1
noncomputable def a82w:Nat→Option LoopAnn:=fun c=>bif Nat.beq c 0 then some (.fix h82w_L0 e82w_L0 s82w_L0) else none
noncomputable def g82w (x0:Ta19) (x1:Int):Option ((Int×Unit)×Ta40) :=
(fixO s82w_L0 (((),(x1,((0:Int),()))),(x0,()))).bind fun d4=>match d4 with | .inl y3=>some ((y3.1.1,()),(y3.2.1,())) | .inr e=>nomatch e
noncomputable def c82w:Ctr:={ ins:=[.ow Ty91,.v (.int .i64)],out:=[(.int .i64)],F:=fun x=>g82w x.1 x.2.1 }
noncomputable def l82w:List (Nat×Code):=loopsIn (Tryz.f82.body.getD .skip) 0
theorem w82w_L0:LW t82w a82w l82w 0 0 h82w_L0 e82w_L0 s82w_L0:=fun x=>by kernel_rfl
theorem o82w:Holds Tryz.prog 82 c82w:=fh t82w a82w Tryz.func82 [(0,lg l82w 0)] ⟨fun x d h=>(w82w_L0 x).trans h,trivial⟩ (tc o161w tn)
noncomputable def t20w:Tbl:=[(77,[],c77w),(78,[],c78w),(79,[],c79w),(19,[],c19w),(80,[],c80w),(81,[],c81w),(82,[],c82w)]
noncomputable def g20w (x0:Ta187) (x1:Int):Option ((Int×Unit)×Ta188) :=
(g77w (x0.1.1,(x0.1.2.1,x0.1.2.2)) x1).bind fun y1=>(g78w (x0.2.2.2.1.1,x0.2.2.2.1.2) y1.1.1).bind fun y2=>(g79w (x0.2.2.2.2.1.1,x0.2.2.2.2.1.2) y2.1.1).bind fun y3=>(g19w x0.2.2.2.2.2.2.2.1 y3.1.1).bind fun y4=>(g80w x0.2.2.2.2.2.2.2.2.1 y4.1.1).bind fun y5=>(g81w x0.2.2.2.2.2.2.2.2.2.1 y5.1.1).bind fun y6=>(g82w x0.2.2.2.2.2.2.2.2.2.2.1 y6.1.1).bind fun y7=>some ((y7.1.1,()),(((y1.2.1.1,((Ty.zero (.int .u32)),(y1.2.1.2.2.1,(Ty.zero .unit)))),(((Ty.zero .bool),((Ty.zero (.int .u32)),((Ty.zero (.int .u32)),((Ty.zero (.int .u32)),((Ty.zero (.int .u32)),((Ty.zero .bool),((Ty.zero .bool),((Ty.zero (.int .u32)),(Ty.zero .unit))))))))),(((Ty.zero (.int .i64)),((Ty.zero (.int .i64)),((Ty.zero (.int .i64)),((Ty.zero .bool),(Ty.zero .unit))))),((((Ty.zero (.int .i64)),((Ty.zero (.int .i64)),((Ty.zero (.int .i64)),(Ty.zero .unit)))),(y2.2.1.2.1,(Ty.zero .unit))),(((Ty.zero (.int .i64)),(y3.2.1.2.1,(Ty.zero .unit))),((Ty.zero (.int .i64)),((Ty.zero .bool),(y4.2.1,(y5.2.1,(y6.2.1,(y7.2.1,(Ty.zero .unit)))))))))))),()))
noncomputable def c20w:Ctr:={ ins:=[.ow Ty203,.v (.int .i64)],out:=[(.int .i64)],F:=fun x=>g20w x.1 x.2.1 }
theorem o20w:Holds Tryz.prog 20 c20w:=f0 t20w Tryz.func20 (tc o77w (tc o78w (tc o79w (tc o19w (tc o80w (tc o81w (tc o82w tn)))))))
noncomputable def t163:Tbl:=[]
abbrev h163_L0:Shape:={ slots:=[(0,.v (.sl (.int .u32))),(1,.v (.int .i64)),(5,.v (.int .i64))],boxes:=[] }
abbrev e163_L0:List (XT×Shape):=[(.ret,{ slots:=[(4,.v (.int .i64))],boxes:=[] }),(.exit 0,{ slots:=[(1,.v (.int .i64))],boxes:=[] })]
noncomputable def q163_L0 (t0:(L Int)) (t1:Int) (t5:Int):Option (Ta37⊕(((Int×Unit)×Unit)⊕(((Int×Unit)×Unit)⊕Empty))) :=
bif (decide (t5 < (t0.len:Int))) then bif (decide (0≤t5)&&decide (t5 < (t0.len:Int))) then bif ((L.get t0 t5.toNat) != (IntKind.wrap .u32 (t1))) then some (.inr (.inl (((-1:Int),()),()))) else some (.inl ((t0,((wI (t1 + (1:Int))),((wI (t5 + (1:Int))),()))),())) else none else some (.inr (.inr (.inl ((t1,()),()))))
noncomputable def s163_L0 (x:Ta37):=q163_L0 x.1.1 x.1.2.1 x.1.2.2.1
noncomputable def a163:Nat→Option LoopAnn:=fun c=>bif Nat.beq c 0 then some (.fix h163_L0 e163_L0 s163_L0) else none
noncomputable def g163 (x0:(L Int)) (x1:Int):Option ((Int×Unit)×Unit) :=
(fixO s163_L0 ((x0,(x1,((0:Int),()))),())).bind fun d2=>match d2 with | .inl y1=>some ((y1.1.1,()),()) | .inr (.inl y1)=>some ((y1.1.1,()),()) | .inr (.inr e)=>nomatch e
noncomputable def c163:Ctr:={ ins:=[.v (.sl (.int .u32)),.v (.int .i64)],out:=[(.int .i64)],F:=fun x=>g163 x.1 x.2.1 }
noncomputable def l163:List (Nat×Code):=loopsIn (Tryz.f163.body.getD .skip) 0
theorem w163_L0:LW t163 a163 l163 0 0 h163_L0 e163_L0 s163_L0:=fun x=>by kernel_rfl
theorem o163:Holds Tryz.prog 163 c163:=fh t163 a163 Tryz.func163 [(0,lg l163 0)] ⟨fun x d h=>(w163_L0 x).trans h,trivial⟩ tn
noncomputable def t166:Tbl:=[]
abbrev h166_L0:Shape:={ slots:=[(0,.v (.sl (.int .u8))),(1,.v (.int .i64)),(5,.v (.int .i64))],boxes:=[] }
abbrev e166_L0:List (XT×Shape):=[(.ret,{ slots:=[(4,.v (.int .i64))],boxes:=[] }),(.exit 0,{ slots:=[(1,.v (.int .i64))],boxes:=[] })]
noncomputable def q166_L0 (t0:(L Int)) (t1:Int) (t5:Int):Option (Ta37⊕(((Int×Unit)×Unit)⊕(((Int×Unit)×Unit)⊕Empty))) :=
bif (decide (t5 < (t0.len:Int))) then bif (decide (0≤t5)&&decide (t5 < (t0.len:Int))) then bif ((L.get t0 t5.toNat) != (IntKind.wrap .u8 (t1))) then some (.inr (.inl (((-1:Int),()),()))) else some (.inl ((t0,((wI (t1 + (1:Int))),((wI (t5 + (1:Int))),()))),())) else none else some (.inr (.inr (.inl ((t1,()),()))))
noncomputable def s166_L0 (x:Ta37):=q166_L0 x.1.1 x.1.2.1 x.1.2.2.1
noncomputable def a166:Nat→Option LoopAnn:=fun c=>bif Nat.beq c 0 then some (.fix h166_L0 e166_L0 s166_L0) else none
noncomputable def g166 (x0:(L Int)) (x1:Int):Option ((Int×Unit)×Unit) :=
(fixO s166_L0 ((x0,(x1,((0:Int),()))),())).bind fun d2=>match d2 with | .inl y1=>some ((y1.1.1,()),()) | .inr (.inl y1)=>some ((y1.1.1,()),()) | .inr (.inr e)=>nomatch e
noncomputable def c166:Ctr:={ ins:=[.v (.sl (.int .u8)),.v (.int .i64)],out:=[(.int .i64)],F:=fun x=>g166 x.1 x.2.1 }
noncomputable def l166:List (Nat×Code):=loopsIn (Tryz.f166.body.getD .skip) 0
theorem w166_L0:LW t166 a166 l166 0 0 h166_L0 e166_L0 s166_L0:=fun x=>by kernel_rfl
theorem o166:Holds Tryz.prog 166 c166:=fh t166 a166 Tryz.func166 [(0,lg l166 0)] ⟨fun x d h=>(w166_L0 x).trans h,trivial⟩ tn
noncomputable def t86:Tbl:=[(166,[],c166)]
abbrev h86_L0:Shape:={ slots:=[(0,.v (.sl (.sl (.int .u8)))),(1,.v (.int .i64)),(5,.v (.int .i64))],boxes:=[] }
abbrev e86_L0:List (XT×Shape):=[(.ret,{ slots:=[(4,.v (.int .i64))],boxes:=[] }),(.exit 0,{ slots:=[(1,.v (.int .i64))],boxes:=[] })]
noncomputable def q86_L0 (t0:(L (L Int))) (t1:Int) (t5:Int):Option (Ta44⊕(((Int×Unit)×Unit)⊕(((Int×Unit)×Unit)⊕Empty))) :=
bif (decide (t5 < (t0.len:Int))) then bif (decide (0≤t5)&&decide (t5 < (t0.len:Int))) then (g166 (L.get t0 t5.toNat) t1).bind fun y1=>bif (decide (y1.1.1 < (0:Int))) then some (.inr (.inl (((-1:Int),()),()))) else some (.inl ((t0,(y1.1.1,((wI (t5 + (1:Int))),()))),())) else none else some (.inr (.inr (.inl ((t1,()),()))))
noncomputable def s86_L0 (x:Ta44):=q86_L0 x.1.1 x.1.2.1 x.1.2.2.1
noncomputable def a86:Nat→Option LoopAnn:=fun c=>bif Nat.beq c 0 then some (.fix h86_L0 e86_L0 s86_L0) else none
noncomputable def g86 (x0:(L (L Int))) (x1:Int):Option ((Int×Unit)×Unit) :=
(fixO s86_L0 ((x0,(x1,((0:Int),()))),())).bind fun d3=>match d3 with | .inl y2=>some ((y2.1.1,()),()) | .inr (.inl y2)=>some ((y2.1.1,()),()) | .inr (.inr e)=>nomatch e
noncomputable def c86:Ctr:={ ins:=[.v (.sl (.sl (.int .u8))),.v (.int .i64)],out:=[(.int .i64)],F:=fun x=>g86 x.1 x.2.1 }
noncomputable def l86:List (Nat×Code):=loopsIn (Tryz.f86.body.getD .skip) 0
theorem w86_L0:LW t86 a86 l86 0 0 h86_L0 e86_L0 s86_L0:=fun x=>by kernel_rfl
theorem o86:Holds Tryz.prog 86 c86:=fh t86 a86 Tryz.func86 [(0,lg l86 0)] ⟨fun x d h=>(w86_L0 x).trans h,trivial⟩ (tc o166 tn)
noncomputable def t83:Tbl:=[(163,[],c163),(86,[],c86)]
noncomputable def g83 (x0:Ta39) (x1:Int):Option ((Int×Unit)×Unit) :=
(g163 x0.1 x1).bind fun y1=>bif (decide (y1.1.1 < (0:Int))) then some (((-1:Int),()),()) else (g86 x0.2.2.1 y1.1.1).bind fun y2=>bif (decide (y2.1.1 < (0:Int))) then some (((-1:Int),()),()) else some ((y2.1.1,()),())
noncomputable def c83:Ctr:={ ins:=[.v Ty112,.v (.int .i64)],out:=[(.int .i64)],F:=fun x=>g83 x.1 x.2.1 }
theorem o83:Holds Tryz.prog 83 c83:=f0 t83 Tryz.func83 (tc o163 (tc o86 tn))
noncomputable def t246:Tbl:=[]
abbrev h246_L0:Shape:={ slots:=[(0,.v Ty60),(1,.v (.int .i64)),(5,.v (.int .i64))],boxes:=[] }
abbrev e246_L0:List (XT×Shape):=[(.ret,{ slots:=[(4,.v (.int .i64))],boxes:=[] }),(.exit 0,{ slots:=[(1,.v (.int .i64))],boxes:=[] })]
noncomputable def q246_L0 (t0:(L (Int×(Bool×Unit)))) (t1:Int) (t5:Int):Option ((((L (Int×(Bool×Unit)))×(Int×(Int×Unit)))×Unit)⊕(((Int×Unit)×Unit)⊕(((Int×Unit)×Unit)⊕Empty))) :=
bif (decide (t5 < (t0.len:Int))) then bif (decide (0≤t5)&&decide (t5 < (t0.len:Int))) then bif ((L.get t0 t5.toNat).1 != t1) then some (.inr (.inl (((-1:Int),()),()))) else bif (decide (0≤t5)&&decide (t5 < (t0.len:Int))) then bif (!((L.get t0 t5.toNat).2.1 == ((Int.tmod (wI (t1 + (1:Int))) (3:Int)) == (0:Int)))) then some (.inr (.inl (((-1:Int),()),()))) else some (.inl ((t0,((wI ((wI (t1 + (1:Int))) + (1:Int))),((wI (t5 + (1:Int))),()))),())) else none else none else some (.inr (.inr (.inl ((t1,()),()))))
noncomputable def s246_L0 (x:(((L (Int×(Bool×Unit)))×(Int×(Int×Unit)))×Unit)):=q246_L0 x.1.1 x.1.2.1 x.1.2.2.1
noncomputable def a246:Nat→Option LoopAnn:=fun c=>bif Nat.beq c 0 then some (.fix h246_L0 e246_L0 s246_L0) else none
noncomputable def g246 (x0:(L (Int×(Bool×Unit)))) (x1:Int):Option ((Int×Unit)×Unit) :=
(fixO s246_L0 ((x0,(x1,((0:Int),()))),())).bind fun d2=>match d2 with | .inl y1=>some ((y1.1.1,()),()) | .inr (.inl y1)=>some ((y1.1.1,()),()) | .inr (.inr e)=>nomatch e
noncomputable def c246:Ctr:={ ins:=[.v Ty60,.v (.int .i64)],out:=[(.int .i64)],F:=fun x=>g246 x.1 x.2.1 }
noncomputable def l246:List (Nat×Code):=loopsIn (Tryz.f246.body.getD .skip) 0
theorem w246_L0:LW t246 a246 l246 0 0 h246_L0 e246_L0 s246_L0:=fun x=>by kernel_rfl
theorem o246:Holds Tryz.prog 246 c246:=fh t246 a246 Tryz.func246 [(0,lg l246 0)] ⟨fun x d h=>(w246_L0 x).trans h,trivial⟩ tn
noncomputable def t164:Tbl:=[(246,[],c246)]
abbrev h164_L0:Shape:={ slots:=[(0,.v Ty72),(1,.v (.int .i64)),(5,.v (.int .i64))],boxes:=[] }
abbrev e164_L0:List (XT×Shape):=[(.ret,{ slots:=[(4,.v (.int .i64))],boxes:=[] }),(.exit 0,{ slots:=[(1,.v (.int .i64))],boxes:=[] })]
noncomputable def q164_L0 (t0:Ta9) (t1:Int) (t5:Int):Option (((Ta9×(Int×(Int×Unit)))×Unit)⊕(((Int×Unit)×Unit)⊕(((Int×Unit)×Unit)⊕Empty))) :=
bif (decide (t5 < (t0.len:Int))) then bif (decide (0≤t5)&&decide (t5 < (t0.len:Int))) then (g246 (L.get t0 t5.toNat) t1).bind fun y1=>bif (decide (y1.1.1 < (0:Int))) then some (.inr (.inl (((-1:Int),()),()))) else some (.inl ((t0,(y1.1.1,((wI (t5 + (1:Int))),()))),())) else none else some (.inr (.inr (.inl ((t1,()),()))))
noncomputable def s164_L0 (x:((Ta9×(Int×(Int×Unit)))×Unit)):=q164_L0 x.1.1 x.1.2.1 x.1.2.2.1
noncomputable def a164:Nat→Option LoopAnn:=fun c=>bif Nat.beq c 0 then some (.fix h164_L0 e164_L0 s164_L0) else none
noncomputable def g164 (x0:Ta9) (x1:Int):Option ((Int×Unit)×Unit) :=
(fixO s164_L0 ((x0,(x1,((0:Int),()))),())).bind fun d3=>match d3 with | .inl y2=>some ((y2.1.1,()),()) | .inr (.inl y2)=>some ((y2.1.1,()),()) | .inr (.inr e)=>nomatch e
noncomputable def c164:Ctr:={ ins:=[.v Ty72,.v (.int .i64)],out:=[(.int .i64)],F:=fun x=>g164 x.1 x.2.1 }
noncomputable def l164:List (Nat×Code):=loopsIn (Tryz.f164.body.getD .skip) 0
theorem w164_L0:LW t164 a164 l164 0 0 h164_L0 e164_L0 s164_L0:=fun x=>by kernel_rfl
theorem o164:Holds Tryz.prog 164 c164:=fh t164 a164 Tryz.func164 [(0,lg l164 0)] ⟨fun x d h=>(w164_L0 x).trans h,trivial⟩ (tc o246 tn)
noncomputable def t84:Tbl:=[(164,[],c164)]
noncomputable def g84 (x0:Ta85) (x1:Int):Option ((Int×Unit)×Unit) :=
(g164 x0.2.1 x1).bind fun y1=>bif (decide (y1.1.1 < (0:Int))) then some (((-1:Int),()),()) else some ((y1.1.1,()),())
noncomputable def c84:Ctr:={ ins:=[.v Ty142,.v (.int .i64)],out:=[(.int .i64)],F:=fun x=>g84 x.1 x.2.1 }
theorem o84:Holds Tryz.prog 84 c84:=f0 t84 Tryz.func84 (tc o164 tn)
noncomputable def t165:Tbl:=[]
abbrev h165_L0:Shape:={ slots:=[(0,.v (.sl (.int .i64))),(1,.v (.int .i64)),(5,.v (.int .i64))],boxes:=[] }
abbrev e165_L0:List (XT×Shape):=[(.ret,{ slots:=[(4,.v (.int .i64))],boxes:=[] }),(.exit 0,{ slots:=[(1,.v (.int .i64))],boxes:=[] })]
noncomputable def q165_L0 (t0:(L Int)) (t1:Int) (t5:Int):Option (Ta37⊕(((Int×Unit)×Unit)⊕(((Int×Unit)×Unit)⊕Empty))) :=
bif (decide (t5 < (t0.len:Int))) then bif (decide (0≤t5)&&decide (t5 < (t0.len:Int))) then bif ((L.get t0 t5.toNat) != t1) then some (.inr (.inl (((-1:Int),()),()))) else some (.inl ((t0,((wI (t1 + (1:Int))),((wI (t5 + (1:Int))),()))),())) else none else some (.inr (.inr (.inl ((t1,()),()))))
noncomputable def s165_L0 (x:Ta37):=q165_L0 x.1.1 x.1.2.1 x.1.2.2.1
noncomputable def a165:Nat→Option LoopAnn:=fun c=>bif Nat.beq c 0 then some (.fix h165_L0 e165_L0 s165_L0) else none
noncomputable def g165 (x0:(L Int)) (x1:Int):Option ((Int×Unit)×Unit) :=
(fixO s165_L0 ((x0,(x1,((0:Int),()))),())).bind fun d2=>match d2 with | .inl y1=>some ((y1.1.1,()),()) | .inr (.inl y1)=>some ((y1.1.1,()),()) | .inr (.inr e)=>nomatch e
noncomputable def c165:Ctr:={ ins:=[.v (.sl (.int .i64)),.v (.int .i64)],out:=[(.int .i64)],F:=fun x=>g165 x.1 x.2.1 }
noncomputable def l165:List (Nat×Code):=loopsIn (Tryz.f165.body.getD .skip) 0
theorem w165_L0:LW t165 a165 l165 0 0 h165_L0 e165_L0 s165_L0:=fun x=>by kernel_rfl
theorem o165:Holds Tryz.prog 165 c165:=fh t165 a165 Tryz.func165 [(0,lg l165 0)] ⟨fun x d h=>(w165_L0 x).trans h,trivial⟩ tn
noncomputable def t85:Tbl:=[(165,[],c165)]
noncomputable def g85 (x0:(Int×((L Int)×Unit))) (x1:Int):Option ((Int×Unit)×Unit) :=
(g165 x0.2.1 x1).bind fun y1=>bif (decide (y1.1.1 < (0:Int))) then some (((-1:Int),()),()) else some ((y1.1.1,()),())
noncomputable def c85:Ctr:={ ins:=[.v Ty73,.v (.int .i64)],out:=[(.int .i64)],F:=fun x=>g85 x.1 x.2.1 }
theorem o85:Holds Tryz.prog 85 c85:=f0 t85 Tryz.func85 (tc o165 tn)
noncomputable def t87:Tbl:=[(163,[],c163)]
abbrev h87_L0:Shape:={ slots:=[(0,.v Ty86),(1,.v (.int .i64)),(5,.v (.int .i64))],boxes:=[] }
abbrev e87_L0:List (XT×Shape):=[(.ret,{ slots:=[(4,.v (.int .i64))],boxes:=[] }),(.exit 0,{ slots:=[(1,.v (.int .i64))],boxes:=[] })]
noncomputable def q87_L0 (t0:Ta3) (t1:Int) (t5:Int):Option (((Ta3×(Int×(Int×Unit)))×Unit)⊕(((Int×Unit)×Unit)⊕(((Int×Unit)×Unit)⊕Empty))) :=
bif (decide (t5 < (t0.len:Int))) then bif (decide (0≤t5)&&decide (t5 < (t0.len:Int))) then bif ((L.get t0 t5.toNat).1 != t1) then some (.inr (.inl (((-1:Int),()),()))) else bif (decide (0≤t5)&&decide (t5 < (t0.len:Int))) then (g163 (L.get t0 t5.toNat).2.1 (wI (t1 + (1:Int)))).bind fun y1=>bif (decide (y1.1.1 < (0:Int))) then some (.inr (.inl (((-1:Int),()),()))) else some (.inl ((t0,(y1.1.1,((wI (t5 + (1:Int))),()))),())) else none else none else some (.inr (.inr (.inl ((t1,()),()))))
noncomputable def s87_L0 (x:((Ta3×(Int×(Int×Unit)))×Unit)):=q87_L0 x.1.1 x.1.2.1 x.1.2.2.1
noncomputable def a87:Nat→Option LoopAnn:=fun c=>bif Nat.beq c 0 then some (.fix h87_L0 e87_L0 s87_L0) else none
noncomputable def g87 (x0:Ta3) (x1:Int):Option ((Int×Unit)×Unit) :=
(fixO s87_L0 ((x0,(x1,((0:Int),()))),())).bind fun d3=>match d3 with | .inl y2=>some ((y2.1.1,()),()) | .inr (.inl y2)=>some ((y2.1.1,()),()) | .inr (.inr e)=>nomatch e
noncomputable def c87:Ctr:={ ins:=[.v Ty86,.v (.int .i64)],out:=[(.int .i64)],F:=fun x=>g87 x.1 x.2.1 }
noncomputable def l87:List (Nat×Code):=loopsIn (Tryz.f87.body.getD .skip) 0
theorem w87_L0:LW t87 a87 l87 0 0 h87_L0 e87_L0 s87_L0:=fun x=>by kernel_rfl
theorem o87:Holds Tryz.prog 87 c87:=fh t87 a87 Tryz.func87 [(0,lg l87 0)] ⟨fun x d h=>(w87_L0 x).trans h,trivial⟩ (tc o163 tn)
noncomputable def t88:Tbl:=[(163,[],c163)]
abbrev h88_L0:Shape:={ slots:=[(0,.v Ty45),(1,.v (.int .i64)),(5,.v (.int .i64))],boxes:=[] }
abbrev e88_L0:List (XT×Shape):=[(.ret,{ slots:=[(4,.v (.int .i64))],boxes:=[] }),(.exit 0,{ slots:=[(1,.v (.int .i64))],boxes:=[] })]
noncomputable def q88_L0 (t0:(L ((L Int)×Unit))) (t1:Int) (t5:Int):Option ((((L ((L Int)×Unit))×(Int×(Int×Unit)))×Unit)⊕(((Int×Unit)×Unit)⊕(((Int×Unit)×Unit)⊕Empty))) :=
bif (decide (t5 < (t0.len:Int))) then bif (decide (0≤t5)&&decide (t5 < (t0.len:Int))) then (g163 (L.get t0 t5.toNat).1 t1).bind fun y1=>bif (decide (y1.1.1 < (0:Int))) then some (.inr (.inl (((-1:Int),()),()))) else some (.inl ((t0,(y1.1.1,((wI (t5 + (1:Int))),()))),())) else none else some (.inr (.inr (.inl ((t1,()),()))))
noncomputable def s88_L0 (x:(((L ((L Int)×Unit))×(Int×(Int×Unit)))×Unit)):=q88_L0 x.1.1 x.1.2.1 x.1.2.2.1
noncomputable def a88:Nat→Option LoopAnn:=fun c=>bif Nat.beq c 0 then some (.fix h88_L0 e88_L0 s88_L0) else none
noncomputable def g88 (x0:(L ((L Int)×Unit))) (x1:Int):Option ((Int×Unit)×Unit) :=
(fixO s88_L0 ((x0,(x1,((0:Int),()))),())).bind fun d3=>match d3 with | .inl y2=>some ((y2.1.1,()),()) | .inr (.inl y2)=>some ((y2.1.1,()),()) | .inr (.inr e)=>nomatch e
noncomputable def c88:Ctr:={ ins:=[.v Ty45,.v (.int .i64)],out:=[(.int .i64)],F:=fun x=>g88 x.1 x.2.1 }
noncomputable def l88:List (Nat×Code):=loopsIn (Tryz.f88.body.getD .skip) 0
theorem w88_L0:LW t88 a88 l88 0 0 h88_L0 e88_L0 s88_L0:=fun x=>by kernel_rfl
theorem o88:Holds Tryz.prog 88 c88:=fh t88 a88 Tryz.func88 [(0,lg l88 0)] ⟨fun x d h=>(w88_L0 x).trans h,trivial⟩ (tc o163 tn)
noncomputable def t89:Tbl:=[(163,[],c163)]
abbrev h89_L0:Shape:={ slots:=[(0,.v Ty91),(1,.v (.int .i64)),(5,.v (.int .i64))],boxes:=[] }
abbrev e89_L0:List (XT×Shape):=[(.ret,{ slots:=[(4,.v (.int .i64))],boxes:=[] }),(.exit 0,{ slots:=[(1,.v (.int .i64))],boxes:=[] })]
noncomputable def q89_L0 (t0:Ta19) (t1:Int) (t5:Int):Option (((Ta19×(Int×(Int×Unit)))×Unit)⊕(((Int×Unit)×Unit)⊕(((Int×Unit)×Unit)⊕Empty))) :=
bif (decide (t5 < (t0.len:Int))) then bif (decide (0≤t5)&&decide (t5 < (t0.len:Int))) then (g163 (L.get t0 t5.toNat).1 t1).bind fun y1=>bif (decide (y1.1.1 < (0:Int))) then some (.inr (.inl (((-1:Int),()),()))) else bif (decide (0≤t5)&&decide (t5 < (t0.len:Int))) then (g163 (L.get t0 t5.toNat).2.1 y1.1.1).bind fun y2=>bif (decide (y2.1.1 < (0:Int))) then some (.inr (.inl (((-1:Int),()),()))) else some (.inl ((t0,(y2.1.1,((wI (t5 + (1:Int))),()))),())) else none else none else some (.inr (.inr (.inl ((t1,()),()))))
noncomputable def s89_L0 (x:((Ta19×(Int×(Int×Unit)))×Unit)):=q89_L0 x.1.1 x.1.2.1 x.1.2.2.1
noncomputable def a89:Nat→Option LoopAnn:=fun c=>bif Nat.beq c 0 then some (.fix h89_L0 e89_L0 s89_L0) else none
noncomputable def g89 (x0:Ta19) (x1:Int):Option ((Int×Unit)×Unit) :=
(fixO s89_L0 ((x0,(x1,((0:Int),()))),())).bind fun d4=>match d4 with | .inl y3=>some ((y3.1.1,()),()) | .inr (.inl y3)=>some ((y3.1.1,()),()) | .inr (.inr e)=>nomatch e
noncomputable def c89:Ctr:={ ins:=[.v Ty91,.v (.int .i64)],out:=[(.int .i64)],F:=fun x=>g89 x.1 x.2.1 }
noncomputable def l89:List (Nat×Code):=loopsIn (Tryz.f89.body.getD .skip) 0
theorem w89_L0:LW t89 a89 l89 0 0 h89_L0 e89_L0 s89_L0:=fun x=>by kernel_rfl
theorem o89:Holds Tryz.prog 89 c89:=fh t89 a89 Tryz.func89 [(0,lg l89 0)] ⟨fun x d h=>(w89_L0 x).trans h,trivial⟩ (tc o163 tn)
noncomputable def t21:Tbl:=[(83,[],c83),(84,[],c84),(85,[],c85),(86,[],c86),(87,[],c87),(88,[],c88),(89,[],c89)]
noncomputable def g21 (x0:Ta187) (x1:Int):Option ((Int×Unit)×Unit) :=
(g83 x0.1 x1).bind fun y1=>bif (decide (y1.1.1 < (0:Int))) then some (((-1:Int),()),()) else (g84 x0.2.2.2.1 y1.1.1).bind fun y2=>bif (decide (y2.1.1 < (0:Int))) then some (((-1:Int),()),()) else (g85 x0.2.2.2.2.1 y2.1.1).bind fun y3=>bif (decide (y3.1.1 < (0:Int))) then some (((-1:Int),()),()) else (g86 x0.2.2.2.2.2.2.2.1 y3.1.1).bind fun y4=>bif (decide (y4.1.1 < (0:Int))) then some (((-1:Int),()),()) else (g87 x0.2.2.2.2.2.2.2.2.1 y4.1.1).bind fun y5=>bif (decide (y5.1.1 < (0:Int))) then some (((-1:Int),()),()) else (g88 x0.2.2.2.2.2.2.2.2.2.1 y5.1.1).bind fun y6=>bif (decide (y6.1.1 < (0:Int))) then some (((-1:Int),()),()) else (g89 x0.2.2.2.2.2.2.2.2.2.2.1 y6.1.1).bind fun y7=>bif (decide (y7.1.1 < (0:Int))) then some (((-1:Int),()),()) else some ((y7.1.1,()),())
noncomputable def c21:Ctr:={ ins:=[.v Ty203,.v (.int .i64)],out:=[(.int .i64)],F:=fun x=>g21 x.1 x.2.1 }
theorem o21:Holds Tryz.prog 21 c21:=f0 t21 Tryz.func21 (tc o83 (tc o84 (tc o85 (tc o86 (tc o87 (tc o88 (tc o89 tn)))))))
noncomputable def t3:Tbl:=[(9,[],c9),(10,[],c10),(12,[],c12r),(13,[],c13r),(11,[],c11r),(14,[],c14r),(15,[],c15),(16,[],c16),(17,[],c17),(18,[],c18w),(19,[],c19w),(20,[],c20w),(21,[],c21)]
noncomputable def g3 (x0:Ta176) (x1:Int) (x2:(L (L Int))):Option ((Bool×Unit)×Unit) :=
(g9 x0 (1048576:Int)).bind fun y1=>bif (decide (y1.1.1 < (0:Int))) then some ((true,()),()) else (g10 x2 y1.1.1).bind fun y2=>bif (decide (y2.1.1 < (0:Int))) then some ((true,()),()) else (g12r x0).bind fun y3=>(g13r x2).bind fun y4=>(g11r (y3.1.1.1,(y3.1.1.2.1,(y3.1.1.2.2.1,(y3.1.1.2.2.2.1,(y3.1.1.2.2.2.2.1,(y3.1.1.2.2.2.2.2.1,(y3.1.1.2.2.2.2.2.2.1,y3.1.1.2.2.2.2.2.2.2))))))) x1 y4.1.1).bind fun y5=>(g12r x0).bind fun y6=>(g13r x2).bind fun y7=>(g14r (y6.1.1.1,(y6.1.1.2.1,(y6.1.1.2.2.1,(y6.1.1.2.2.2.1,(y6.1.1.2.2.2.2.1,(y6.1.1.2.2.2.2.2.1,(y6.1.1.2.2.2.2.2.2.1,y6.1.1.2.2.2.2.2.2.2))))))) x1 y7.1.1).bind fun y8=>(g15 ((y8.1.1.1.1,(y8.1.1.1.2.1,y8.1.1.1.2.2)),(y8.1.1.2.1,(y8.1.1.2.2.1,((y8.1.1.2.2.2.1.1,y8.1.1.2.2.2.1.2),((y8.1.1.2.2.2.2.1.1,y8.1.1.2.2.2.2.1.2),(y8.1.1.2.2.2.2.2.1,(y8.1.1.2.2.2.2.2.2.1,y8.1.1.2.2.2.2.2.2.2))))))) ((y5.1.1.1.1,(y5.1.1.1.2.1,y5.1.1.1.2.2)),(y5.1.1.2.1,(y5.1.1.2.2.1,((y5.1.1.2.2.2.1.1,y5.1.1.2.2.2.1.2),((y5.1.1.2.2.2.2.1.1,y5.1.1.2.2.2.2.1.2),(y5.1.1.2.2.2.2.2.1,(y5.1.1.2.2.2.2.2.2.1,y5.1.1.2.2.2.2.2.2.2)))))))).bind fun y9=>bif (!y9.1.1) then some ((false,()),()) else bif (!(y8.1.2.1 == y5.1.2.1)) then some ((false,()),()) else (g12r x0).bind fun y10=>(g16 (y6.1.1.1,(y6.1.1.2.1,(y6.1.1.2.2.1,(y6.1.1.2.2.2.1,(y6.1.1.2.2.2.2.1,(y6.1.1.2.2.2.2.2.1,(y6.1.1.2.2.2.2.2.2.1,y6.1.1.2.2.2.2.2.2.2))))))) (y10.1.1.1,(y10.1.1.2.1,(y10.1.1.2.2.1,(y10.1.1.2.2.2.1,(y10.1.1.2.2.2.2.1,(y10.1.1.2.2.2.2.2.1,(y10.1.1.2.2.2.2.2.2.1,y10.1.1.2.2.2.2.2.2.2)))))))).bind fun y11=>bif (!y11.1.1) then some ((false,()),()) else (g13r x2).bind fun y12=>(g17 y7.1.1 y12.1.1).bind fun y13=>bif (!y13.1.1) then some ((false,()),()) else (g18w (y6.1.1.1,(y6.1.1.2.1,(y6.1.1.2.2.1,(y6.1.1.2.2.2.1,(y6.1.1.2.2.2.2.1,(y6.1.1.2.2.2.2.2.1,(y6.1.1.2.2.2.2.2.2.1,y6.1.1.2.2.2.2.2.2.2))))))) (1:Int)).bind fun y14=>(g19w y7.1.1 y14.1.1).bind fun y15=>bif (decide (y15.1.1 < (0:Int))) then some ((false,()),()) else (g15 ((y8.1.1.1.1,(y8.1.1.1.2.1,y8.1.1.1.2.2)),(y8.1.1.2.1,(y8.1.1.2.2.1,((y8.1.1.2.2.2.1.1,y8.1.1.2.2.2.1.2),((y8.1.1.2.2.2.2.1.1,y8.1.1.2.2.2.2.1.2),(y8.1.1.2.2.2.2.2.1,(y8.1.1.2.2.2.2.2.2.1,y8.1.1.2.2.2.2.2.2.2))))))) ((y5.1.1.1.1,(y5.1.1.1.2.1,y5.1.1.1.2.2)),(y5.1.1.2.1,(y5.1.1.2.2.1,((y5.1.1.2.2.2.1.1,y5.1.1.2.2.2.1.2),((y5.1.1.2.2.2.2.1.1,y5.1.1.2.2.2.2.1.2),(y5.1.1.2.2.2.2.2.1,(y5.1.1.2.2.2.2.2.2.1,y5.1.1.2.2.2.2.2.2.2)))))))).bind fun y16=>bif (!y16.1.1) then some ((false,()),()) else bif (!(y8.1.2.1 == y5.1.2.1)) then some ((false,()),()) else (g20w ((y8.1.1.1.1,(y8.1.1.1.2.1,y8.1.1.1.2.2)),(y8.1.1.2.1,(y8.1.1.2.2.1,((y8.1.1.2.2.2.1.1,y8.1.1.2.2.2.1.2),((y8.1.1.2.2.2.2.1.1,y8.1.1.2.2.2.2.1.2),(y8.1.1.2.2.2.2.2.1,(y8.1.1.2.2.2.2.2.2.1,y8.1.1.2.2.2.2.2.2.2))))))) (1:Int)).bind fun y17=>(g21 ((y17.2.1.1.1,(y8.1.1.1.2.1,y17.2.1.1.2.2)),(y8.1.1.2.1,(y8.1.1.2.2.1,((y8.1.1.2.2.2.1.1,y17.2.1.2.2.2.1.2),((y8.1.1.2.2.2.2.1.1,y17.2.1.2.2.2.2.1.2),(y8.1.1.2.2.2.2.2.1,(y8.1.1.2.2.2.2.2.2.1,y17.2.1.2.2.2.2.2.2.2))))))) (1:Int)).bind fun y18=>bif (decide (y18.1.1 < (0:Int))) then some ((false,()),()) else bif (y18.1.1 != y17.1.1) then some ((false,()),()) else (g12r x0).bind fun y19=>(g13r x2).bind fun y20=>(g14r (y19.1.1.1,(y19.1.1.2.1,(y19.1.1.2.2.1,(y19.1.1.2.2.2.1,(y19.1.1.2.2.2.2.1,(y19.1.1.2.2.2.2.2.1,(y19.1.1.2.2.2.2.2.2.1,y19.1.1.2.2.2.2.2.2.2))))))) x1 y20.1.1).bind fun y21=>(g15 ((y21.1.1.1.1,(y21.1.1.1.2.1,y21.1.1.1.2.2)),(y21.1.1.2.1,(y21.1.1.2.2.1,((y21.1.1.2.2.2.1.1,y21.1.1.2.2.2.1.2),((y21.1.1.2.2.2.2.1.1,y21.1.1.2.2.2.2.1.2),(y21.1.1.2.2.2.2.2.1,(y21.1.1.2.2.2.2.2.2.1,y21.1.1.2.2.2.2.2.2.2))))))) ((y5.1.1.1.1,(y5.1.1.1.2.1,y5.1.1.1.2.2)),(y5.1.1.2.1,(y5.1.1.2.2.1,((y5.1.1.2.2.2.1.1,y5.1.1.2.2.2.1.2),((y5.1.1.2.2.2.2.1.1,y5.1.1.2.2.2.2.1.2),(y5.1.1.2.2.2.2.2.1,(y5.1.1.2.2.2.2.2.2.1,y5.1.1.2.2.2.2.2.2.2)))))))).bind fun y22=>bif (!y22.1.1) then some ((false,()),()) else bif (!(y21.1.2.1 == y5.1.2.1)) then some ((false,()),()) else (g21 ((y17.2.1.1.1,(y8.1.1.1.2.1,y17.2.1.1.2.2)),(y8.1.1.2.1,(y8.1.1.2.2.1,((y8.1.1.2.2.2.1.1,y17.2.1.2.2.2.1.2),((y8.1.1.2.2.2.2.1.1,y17.2.1.2.2.2.2.1.2),(y8.1.1.2.2.2.2.2.1,(y8.1.1.2.2.2.2.2.2.1,y17.2.1.2.2.2.2.2.2.2))))))) (1:Int)).bind fun y23=>bif (decide (y23.1.1 < (0:Int))) then some ((false,()),()) else bif (y23.1.1 != y17.1.1) then some ((false,()),()) else some ((true,()),())
noncomputable def c3:Ctr:={ ins:=[.v Ty202,.v (.int .i64),.v (.sl (.sl (.int .u8)))],out:=[.bool],F:=fun x=>g3 x.1 x.2.1 x.2.2.1 }
theorem o3:Holds Tryz.prog 3 c3:=f0 t3 Tryz.func3 (tc o9 (tc o10 (tc o12r (tc o13r (tc o11r (tc o14r (tc o15 (tc o16 (tc o17 (tc o18w (tc o19w (tc o20w (tc o21 tn)))))))))))))
end Go.VE.VFnExactPartBoot
