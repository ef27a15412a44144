import Derived.Test.YtnjlpdagdedbaaaVfZ
import Derived.Test.YtnjlpdagdedbaaaProg
/- What the functions do that laws.FnExactPermOf reaches, as plain functions, and that they do it. -/
set_option linter.unusedVariables false
set_option linter.unusedSimpArgs false
namespace Go.VE.VFnExactPermOf
open Go.Proofs Go.VE
abbrev Ta0 : Type := (ByteArray × (Int × Unit))
abbrev Ta1 : Type := (Ta0 × Unit)
def Γ : TypeId → Option Ty := fun e => none
theorem gamOk : GamOk Try.prog Γ := fun e ty h => by simp [Γ] at h
/-! ### 60: loop.example/g00076/spec.l01In -/
noncomputable def t60 : Tbl := []
noncomputable def a60 : Nat → Option LoopAnn := fun _ => none
noncomputable def g60 (x0 : Int) (x1 : Int) (x2 : Int) : Option ((Bool × Unit) × Unit) :=
  bif (decide (x0 ≥ x1)) then
    some (((decide (x0 ≤ x2)), ()), ())
  else
    some ((false, ()), ())
noncomputable def f60 (x0 : Int) (x1 : Int) (x2 : Int) : Bool :=
  bif (decide (x0 ≥ x1)) then
    (decide (x0 ≤ x2))
  else
    false
theorem n60 (x0 : Int) (x1 : Int) (x2 : Int) : g60 x0 x1 x2 = some ((f60 x0 x1 x2, ()), ()) := by
  simp only [g60, f60, pull1]
noncomputable def c60 : Ctr := { ins := [.v (.int .i64), .v (.int .i64), .v (.int .i64)], out := [.bool], F := fun x => some ((f60 x.1 x.2.1 x.2.2.1, ()), ()) }
theorem v60 : LoopsOk Try.prog Γ t60 a60 (loopsIn (Try.f60.body.getD .skip) 0) := loopsOk_nil (by kernel_rfl)
theorem r60 (x : InsT c60.ins) : fnK Try.prog Γ t60 a60 Try.f60 c60 x = g60 x.1 x.2.1 x.2.2.1 := by kernel_rfl
theorem k60 : TblOk Try.prog t60 := tblOk_nil
theorem o60 : Holds Try.prog 60 c60 := fn_holds (code := Try.f60.body.getD .skip) (by kernel_rfl) gamOk k60 Try.func60 (by kernel_rfl) (by kernel_rfl) (by kernel_rfl) (by kernel_rfl) v60 (fun x _ h => (r60 x).trans ((n60 x.1 x.2.1 x.2.2.1).trans h))
/-! ### 13: loop.example/g00076/spec.PermText -/
noncomputable def t13 : Tbl := [(60, [], c60)]
noncomputable def a13 : Nat → Option LoopAnn := fun _ => none
noncomputable def g13 (x0 : Int) : Option ((ByteArray × Unit) × Unit) :=
  bif (!(f60 x0 (1 : Int) (7 : Int))) then
    some (((⟨#[]⟩ : ByteArray), ()), ())
  else
    bif ((Int.tmod x0 (2 : Int)) == (1 : Int)) then
      bif (decide ((((⟨#[]⟩ : ByteArray).size + (⟨#[114]⟩ : ByteArray).size : Nat) : Int) ≤ IntKind.i64.max)) then
        bif ((Int.tmod (wI (Int.tdiv x0 (2 : Int))) (2 : Int)) == (1 : Int)) then
          bif (decide (((((⟨#[]⟩ : ByteArray) ++ (⟨#[114]⟩ : ByteArray)).size + (⟨#[119]⟩ : ByteArray).size : Nat) : Int) ≤ IntKind.i64.max)) then
            bif ((wI (Int.tdiv x0 (4 : Int))) == (1 : Int)) then
              bif (decide ((((((⟨#[]⟩ : ByteArray) ++ (⟨#[114]⟩ : ByteArray)) ++ (⟨#[119]⟩ : ByteArray)).size + (⟨#[120]⟩ : ByteArray).size : Nat) : Int) ≤ IntKind.i64.max)) then
                some ((((((⟨#[]⟩ : ByteArray) ++ (⟨#[114]⟩ : ByteArray)) ++ (⟨#[119]⟩ : ByteArray)) ++ (⟨#[120]⟩ : ByteArray)), ()), ())
              else
                none
            else
              some (((((⟨#[]⟩ : ByteArray) ++ (⟨#[114]⟩ : ByteArray)) ++ (⟨#[119]⟩ : ByteArray)), ()), ())
          else
            none
        else
          bif ((wI (Int.tdiv x0 (4 : Int))) == (1 : Int)) then
            bif (decide (((((⟨#[]⟩ : ByteArray) ++ (⟨#[114]⟩ : ByteArray)).size + (⟨#[120]⟩ : ByteArray).size : Nat) : Int) ≤ IntKind.i64.max)) then
              some (((((⟨#[]⟩ : ByteArray) ++ (⟨#[114]⟩ : ByteArray)) ++ (⟨#[120]⟩ : ByteArray)), ()), ())
            else
              none
          else
            some ((((⟨#[]⟩ : ByteArray) ++ (⟨#[114]⟩ : ByteArray)), ()), ())
      else
        none
    else
      bif ((Int.tmod (wI (Int.tdiv x0 (2 : Int))) (2 : Int)) == (1 : Int)) then
        bif (decide ((((⟨#[]⟩ : ByteArray).size + (⟨#[119]⟩ : ByteArray).size : Nat) : Int) ≤ IntKind.i64.max)) then
          bif ((wI (Int.tdiv x0 (4 : Int))) == (1 : Int)) then
            bif (decide (((((⟨#[]⟩ : ByteArray) ++ (⟨#[119]⟩ : ByteArray)).size + (⟨#[120]⟩ : ByteArray).size : Nat) : Int) ≤ IntKind.i64.max)) then
              some (((((⟨#[]⟩ : ByteArray) ++ (⟨#[119]⟩ : ByteArray)) ++ (⟨#[120]⟩ : ByteArray)), ()), ())
            else
              none
          else
            some ((((⟨#[]⟩ : ByteArray) ++ (⟨#[119]⟩ : ByteArray)), ()), ())
        else
          none
      else
        bif ((wI (Int.tdiv x0 (4 : Int))) == (1 : Int)) then
          bif (decide ((((⟨#[]⟩ : ByteArray).size + (⟨#[120]⟩ : ByteArray).size : Nat) : Int) ≤ IntKind.i64.max)) then
            some ((((⟨#[]⟩ : ByteArray) ++ (⟨#[120]⟩ : ByteArray)), ()), ())
          else
            none
        else
          some (((⟨#[]⟩ : ByteArray), ()), ())
noncomputable def c13 : Ctr := { ins := [.v (.int .i64)], out := [.str], F := fun x => g13 x.1 }
theorem v13 : LoopsOk Try.prog Γ t13 a13 (loopsIn (Try.f13.body.getD .skip) 0) := loopsOk_nil (by kernel_rfl)
theorem r13 (x : InsT c13.ins) : fnK Try.prog Γ t13 a13 Try.f13 c13 x = g13 x.1 := by kernel_rfl
theorem k13 : TblOk Try.prog t13 := tblOk_cons o60 (tblOk_nil)
theorem o13 : Holds Try.prog 13 c13 := fn_holds (code := Try.f13.body.getD .skip) (by kernel_rfl) gamOk k13 Try.func13 (by kernel_rfl) (by kernel_rfl) (by kernel_rfl) (by kernel_rfl) v13 (fun x _ h => (r13 x).trans h)
/-! ### 15: loop.example/g00076/spec.PermOf -/
noncomputable def t15 : Tbl := [(13, [], c13)]
abbrev h15_L0 : Shape := { slots := [(0, .v .str), (3, .v (.int .i64))], boxes := [] }
abbrev e15_L0 : List (XT × Shape) := [(.ret, { slots := [(2, .v (.int .i64))], boxes := [] }), (.exit 0, { slots := [], boxes := [] })]
noncomputable def q15_L0 (t0 : ByteArray) (t3 : Int) : Option (Ta1 ⊕ (((Int × Unit) × Unit) ⊕ ((Unit × Unit) ⊕ Empty))) :=
  bif (decide (t3 ≤ (7 : Int))) then
    (g13 t3).bind fun y1 =>
      bif (strEq y1.1.1 t0) then
        some (.inr (.inl ((t3, ()), ())))
      else
        some (.inl ((t0, ((wI (t3 + (1 : Int))), ())), ()))
  else
    some (.inr (.inr (.inl ((), ()))))
noncomputable def s15_L0 (x : Ta1) : Option (Ta1 ⊕ (((Int × Unit) × Unit) ⊕ ((Unit × Unit) ⊕ Empty))) := q15_L0 x.1.1 x.1.2.1
noncomputable def a15 : Nat → Option LoopAnn := fun c => bif Nat.beq c 0 then some (.fix h15_L0 e15_L0 s15_L0) else none
noncomputable def g15 (x0 : ByteArray) : Option ((Int × Unit) × Unit) :=
  (fixO s15_L0 ((x0, ((1 : Int), ())), ())).bind fun d3 => match d3 with
  | .inl y2 =>
    some ((y2.1.1, ()), ())
  | .inr (.inl y2) =>
    some (((0 : Int), ()), ())
  | .inr (.inr e) => nomatch e
noncomputable def c15 : Ctr := { ins := [.v .str], out := [(.int .i64)], F := fun x => g15 x.1 }
noncomputable def l15 : List (Nat × Code) := loopsIn (Try.f15.body.getD .skip) 0
theorem w15_L0 (x : h15_L0.T) : runK Try.prog Γ t15 a15 (l15.getD 0 (0, .skip)).2 0 (pkSh h15_L0 x) (loopCls (sh := h15_L0) (es := e15_L0)) = (s15_L0 x : Option _) := by kernel_rfl
theorem v15 : LoopsOk Try.prog Γ t15 a15 (loopsIn (Try.f15.body.getD .skip) 0) := by
  have e : loopsIn (Try.f15.body.getD .skip) 0 = [(0, (l15.getD 0 (0, .skip)).2)] := by kernel_rfl
  rw [e]
  exact ⟨fun x d h => (w15_L0 x).trans h, trivial⟩
theorem r15 (x : InsT c15.ins) : fnK Try.prog Γ t15 a15 Try.f15 c15 x = g15 x.1 := by kernel_rfl
theorem k15 : TblOk Try.prog t15 := tblOk_cons o13 (tblOk_nil)
theorem o15 : Holds Try.prog 15 c15 := fn_holds (code := Try.f15.body.getD .skip) (by kernel_rfl) gamOk k15 Try.func15 (by kernel_rfl) (by kernel_rfl) (by kernel_rfl) (by kernel_rfl) v15 (fun x _ h => (r15 x).trans h)
/-! ### 62: loop.example/g00076/impl.permText -/
noncomputable def t62 : Tbl := []
noncomputable def a62 : Nat → Option LoopAnn := fun c => bif Nat.beq c 0 then some (.unroll 4 [0, 3, 6] [6]) else none
noncomputable def g62 (x0 : Int) : Option ((ByteArray × Unit) × Unit) :=
  bif ((andOf .i64 (shrOf .i64 x0 (0 : Int)) (1 : Int)) == (1 : Int)) then
    bif (decide ((((⟨#[]⟩ : ByteArray).size + (Utf8.encode (114 : Int)).size : Nat) : Int) ≤ IntKind.i64.max)) then
      bif ((andOf .i64 (shrOf .i64 x0 (1 : Int)) (1 : Int)) == (1 : Int)) then
        bif (decide (((((⟨#[]⟩ : ByteArray) ++ (Utf8.encode (114 : Int))).size + (Utf8.encode (119 : Int)).size : Nat) : Int) ≤ IntKind.i64.max)) then
          bif ((andOf .i64 (shrOf .i64 x0 (2 : Int)) (1 : Int)) == (1 : Int)) then
            bif (decide ((((((⟨#[]⟩ : ByteArray) ++ (Utf8.encode (114 : Int))) ++ (Utf8.encode (119 : Int))).size + (Utf8.encode (120 : Int)).size : Nat) : Int) ≤ IntKind.i64.max)) then
              some ((((((⟨#[]⟩ : ByteArray) ++ (Utf8.encode (114 : Int))) ++ (Utf8.encode (119 : Int))) ++ (Utf8.encode (120 : Int))), ()), ())
            else
              none
          else
            some (((((⟨#[]⟩ : ByteArray) ++ (Utf8.encode (114 : Int))) ++ (Utf8.encode (119 : Int))), ()), ())
        else
          none
      else
        bif ((andOf .i64 (shrOf .i64 x0 (2 : Int)) (1 : Int)) == (1 : Int)) then
          bif (decide (((((⟨#[]⟩ : ByteArray) ++ (Utf8.encode (114 : Int))).size + (Utf8.encode (120 : Int)).size : Nat) : Int) ≤ IntKind.i64.max)) then
            some (((((⟨#[]⟩ : ByteArray) ++ (Utf8.encode (114 : Int))) ++ (Utf8.encode (120 : Int))), ()), ())
          else
            none
        else
          some ((((⟨#[]⟩ : ByteArray) ++ (Utf8.encode (114 : Int))), ()), ())
    else
      none
  else
    bif ((andOf .i64 (shrOf .i64 x0 (1 : Int)) (1 : Int)) == (1 : Int)) then
      bif (decide ((((⟨#[]⟩ : ByteArray).size + (Utf8.encode (119 : Int)).size : Nat) : Int) ≤ IntKind.i64.max)) then
        bif ((andOf .i64 (shrOf .i64 x0 (2 : Int)) (1 : Int)) == (1 : Int)) then
          bif (decide (((((⟨#[]⟩ : ByteArray) ++ (Utf8.encode (119 : Int))).size + (Utf8.encode (120 : Int)).size : Nat) : Int) ≤ IntKind.i64.max)) then
            some (((((⟨#[]⟩ : ByteArray) ++ (Utf8.encode (119 : Int))) ++ (Utf8.encode (120 : Int))), ()), ())
          else
            none
        else
          some ((((⟨#[]⟩ : ByteArray) ++ (Utf8.encode (119 : Int))), ()), ())
      else
        none
    else
      bif ((andOf .i64 (shrOf .i64 x0 (2 : Int)) (1 : Int)) == (1 : Int)) then
        bif (decide ((((⟨#[]⟩ : ByteArray).size + (Utf8.encode (120 : Int)).size : Nat) : Int) ≤ IntKind.i64.max)) then
          some ((((⟨#[]⟩ : ByteArray) ++ (Utf8.encode (120 : Int))), ()), ())
        else
          none
      else
        some (((⟨#[]⟩ : ByteArray), ()), ())
noncomputable def c62 : Ctr := { ins := [.v (.int .i64)], out := [.str], F := fun x => g62 x.1 }
noncomputable def l62 : List (Nat × Code) := loopsIn (Try.f62.body.getD .skip) 0
theorem v62 : LoopsOk Try.prog Γ t62 a62 (loopsIn (Try.f62.body.getD .skip) 0) := by
  have e : loopsIn (Try.f62.body.getD .skip) 0 = [(0, (l62.getD 0 (0, .skip)).2)] := by kernel_rfl
  rw [e]
  exact ⟨trivial, trivial⟩
theorem r62 (x : InsT c62.ins) : fnK Try.prog Γ t62 a62 Try.f62 c62 x = g62 x.1 := by kernel_rfl
theorem k62 : TblOk Try.prog t62 := tblOk_nil
theorem o62 : Holds Try.prog 62 c62 := fn_holds (code := Try.f62.body.getD .skip) (by kernel_rfl) gamOk k62 Try.func62 (by kernel_rfl) (by kernel_rfl) (by kernel_rfl) (by kernel_rfl) v62 (fun x _ h => (r62 x).trans h)
/-! ### 63: loop.example/g00076/impl.permOf -/
noncomputable def t63 : Tbl := [(62, [], c62)]
abbrev h63_L0 : Shape := { slots := [(0, .v .str), (3, .v (.int .i64))], boxes := [] }
abbrev e63_L0 : List (XT × Shape) := [(.ret, { slots := [(2, .v (.int .i64))], boxes := [] }), (.exit 0, { slots := [], boxes := [] })]
noncomputable def q63_L0 (t0 : ByteArray) (t3 : Int) : Option (Ta1 ⊕ (((Int × Unit) × Unit) ⊕ ((Unit × Unit) ⊕ Empty))) :=
  bif (decide (t3 ≤ (7 : Int))) then
    (g62 t3).bind fun y1 =>
      bif (strEq y1.1.1 t0) then
        some (.inr (.inl ((t3, ()), ())))
      else
        some (.inl ((t0, ((wI (t3 + (1 : Int))), ())), ()))
  else
    some (.inr (.inr (.inl ((), ()))))
noncomputable def s63_L0 (x : Ta1) : Option (Ta1 ⊕ (((Int × Unit) × Unit) ⊕ ((Unit × Unit) ⊕ Empty))) := q63_L0 x.1.1 x.1.2.1
noncomputable def a63 : Nat → Option LoopAnn := fun c => bif Nat.beq c 0 then some (.fix h63_L0 e63_L0 s63_L0) else none
noncomputable def g63 (x0 : ByteArray) : Option ((Int × Unit) × Unit) :=
  (fixO s63_L0 ((x0, ((1 : Int), ())), ())).bind fun d3 => match d3 with
  | .inl y2 =>
    some ((y2.1.1, ()), ())
  | .inr (.inl y2) =>
    some (((0 : Int), ()), ())
  | .inr (.inr e) => nomatch e
noncomputable def c63 : Ctr := { ins := [.v .str], out := [(.int .i64)], F := fun x => g63 x.1 }
noncomputable def l63 : List (Nat × Code) := loopsIn (Try.f63.body.getD .skip) 0
theorem w63_L0 (x : h63_L0.T) : runK Try.prog Γ t63 a63 (l63.getD 0 (0, .skip)).2 0 (pkSh h63_L0 x) (loopCls (sh := h63_L0) (es := e63_L0)) = (s63_L0 x : Option _) := by kernel_rfl
theorem v63 : LoopsOk Try.prog Γ t63 a63 (loopsIn (Try.f63.body.getD .skip) 0) := by
  have e : loopsIn (Try.f63.body.getD .skip) 0 = [(0, (l63.getD 0 (0, .skip)).2)] := by kernel_rfl
  rw [e]
  exact ⟨fun x d h => (w63_L0 x).trans h, trivial⟩
theorem r63 (x : InsT c63.ins) : fnK Try.prog Γ t63 a63 Try.f63 c63 x = g63 x.1 := by kernel_rfl
theorem k63 : TblOk Try.prog t63 := tblOk_cons o62 (tblOk_nil)
theorem o63 : Holds Try.prog 63 c63 := fn_holds (code := Try.f63.body.getD .skip) (by kernel_rfl) gamOk k63 Try.func63 (by kernel_rfl) (by kernel_rfl) (by kernel_rfl) (by kernel_rfl) v63 (fun x _ h => (r63 x).trans h)
/-! ### 16: loop.example/g00076/impl.PermOf -/
noncomputable def t16 : Tbl := [(63, [], c63)]
noncomputable def a16 : Nat → Option LoopAnn := fun _ => none
noncomputable def g16 (x0 : ByteArray) : Option ((Int × Unit) × Unit) :=
  (g63 x0).bind fun y1 =>
    some ((y1.1.1, ()), ())
noncomputable def c16 : Ctr := { ins := [.v .str], out := [(.int .i64)], F := fun x => g16 x.1 }
theorem v16 : LoopsOk Try.prog Γ t16 a16 (loopsIn (Try.f16.body.getD .skip) 0) := loopsOk_nil (by kernel_rfl)
theorem r16 (x : InsT c16.ins) : fnK Try.prog Γ t16 a16 Try.f16 c16 x = g16 x.1 := by kernel_rfl
theorem k16 : TblOk Try.prog t16 := tblOk_cons o63 (tblOk_nil)
theorem o16 : Holds Try.prog 16 c16 := fn_holds (code := Try.f16.body.getD .skip) (by kernel_rfl) gamOk k16 Try.func16 (by kernel_rfl) (by kernel_rfl) (by kernel_rfl) (by kernel_rfl) v16 (fun x _ h => (r16 x).trans h)
/-! ### 4: loop.example/g00076/laws.FnExactPermOf -/
noncomputable def t4 : Tbl := [(15, [], c15), (16, [], c16)]
noncomputable def a4 : Nat → Option LoopAnn := fun _ => none
noncomputable def g4 (x0 : ByteArray) : Option ((Bool × Unit) × Unit) :=
  bif (decide ((x0.size : Int) > (1048576 : Int))) then
    some ((true, ()), ())
  else
    (g15 x0).bind fun y1 =>
      (g16 x0).bind fun y2 =>
        bif (y2.1.1 != y1.1.1) then
          some ((false, ()), ())
        else
          some ((true, ()), ())
noncomputable def c4 : Ctr := { ins := [.v .str], out := [.bool], F := fun x => g4 x.1 }
theorem v4 : LoopsOk Try.prog Γ t4 a4 (loopsIn (Try.f4.body.getD .skip) 0) := loopsOk_nil (by kernel_rfl)
theorem r4 (x : InsT c4.ins) : fnK Try.prog Γ t4 a4 Try.f4 c4 x = g4 x.1 := by kernel_rfl
theorem k4 : TblOk Try.prog t4 := tblOk_cons o15 (tblOk_cons o16 (tblOk_nil))
theorem o4 : Holds Try.prog 4 c4 := fn_holds (code := Try.f4.body.getD .skip) (by kernel_rfl) gamOk k4 Try.func4 (by kernel_rfl) (by kernel_rfl) (by kernel_rfl) (by kernel_rfl) v4 (fun x _ h => (r4 x).trans h)
end Go.VE.VFnExactPermOf
