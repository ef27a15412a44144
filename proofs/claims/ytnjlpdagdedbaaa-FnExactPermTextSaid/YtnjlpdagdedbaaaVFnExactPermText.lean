import Derived.Test.YtnjlpdagdedbaaaVfZ
import Derived.Test.YtnjlpdagdedbaaaProg
/- What the functions do that laws.FnExactPermText reaches, as plain functions, and that they do it. -/
set_option linter.unusedVariables false
set_option linter.unusedSimpArgs false
namespace Go.VE.VFnExactPermText
open Go.Proofs Go.VE
abbrev Ta0 : Type := ((ByteArray × Unit) × Unit)
def Γ : TypeId → Option Ty := fun e => none
theorem gamOk : GamOk Try.prog Γ := fun e ty h => by simp [Γ] at h
/-! ### 60: loop.example/g00076/spec.l01In -/
noncomputable def t60 : Tbl := []
noncomputable def a60 : Nat → Option LoopAnn := fun _ => none
noncomputable def g60 (x0 : Int) (x1 : Int) (x2 : Int) : Option ((Bool × Unit) × Unit) :=
  bif (decide (x0 ≥ x1)) then
    some (((decide (x0 ≤ x2)), ()), ())
  else
    some ((false, ()), ())
noncomputable def f60 (x0 : Int) (x1 : Int) (x2 : Int) : Bool :=
  bif (decide (x0 ≥ x1)) then
    (decide (x0 ≤ x2))
  else
    false
theorem n60 (x0 : Int) (x1 : Int) (x2 : Int) : g60 x0 x1 x2 = some ((f60 x0 x1 x2, ()), ()) := by
  simp only [g60, f60, pull1]
noncomputable def c60 : Ctr := { ins := [.v (.int .i64), .v (.int .i64), .v (.int .i64)], out := [.bool], F := fun x => some ((f60 x.1 x.2.1 x.2.2.1, ()), ()) }
theorem v60 : LoopsOk Try.prog Γ t60 a60 (loopsIn (Try.f60.body.getD .skip) 0) := loopsOk_nil (by kernel_rfl)
theorem r60 (x : InsT c60.ins) : fnK Try.prog Γ t60 a60 Try.f60 c60 x = g60 x.1 x.2.1 x.2.2.1 := by kernel_rfl
theorem k60 : TblOk Try.prog t60 := tblOk_nil
theorem o60 : Holds Try.prog 60 c60 := fn_holds (code := Try.f60.body.getD .skip) (by kernel_rfl) gamOk k60 Try.func60 (by kernel_rfl) (by kernel_rfl) (by kernel_rfl) (by kernel_rfl) v60 (fun x _ h => (r60 x).trans ((n60 x.1 x.2.1 x.2.2.1).trans h))
/-! ### 13: loop.example/g00076/spec.PermText -/
noncomputable def t13 : Tbl := [(60, [], c60)]
noncomputable def a13 : Nat → Option LoopAnn := fun _ => none
noncomputable def g13 (x0 : Int) : Option Ta0 :=
  bif (!(f60 x0 (1 : Int) (7 : Int))) then
    some (((⟨#[]⟩ : ByteArray), ()), ())
  else
    bif ((Int.tmod x0 (2 : Int)) == (1 : Int)) then
      bif (decide ((((⟨#[]⟩ : ByteArray).size + (⟨#[114]⟩ : ByteArray).size : Nat) : Int) ≤ IntKind.i64.max)) then
        bif ((Int.tmod (wI (Int.tdiv x0 (2 : Int))) (2 : Int)) == (1 : Int)) then
          bif (decide (((((⟨#[]⟩ : ByteArray) ++ (⟨#[114]⟩ : ByteArray)).size + (⟨#[119]⟩ : ByteArray).size : Nat) : Int) ≤ IntKind.i64.max)) then
            bif ((wI (Int.tdiv x0 (4 : Int))) == (1 : Int)) then
              bif (decide ((((((⟨#[]⟩ : ByteArray) ++ (⟨#[114]⟩ : ByteArray)) ++ (⟨#[119]⟩ : ByteArray)).size + (⟨#[120]⟩ : ByteArray).size : Nat) : Int) ≤ IntKind.i64.max)) then
                some ((((((⟨#[]⟩ : ByteArray) ++ (⟨#[114]⟩ : ByteArray)) ++ (⟨#[119]⟩ : ByteArray)) ++ (⟨#[120]⟩ : ByteArray)), ()), ())
              else
                none
            else
              some (((((⟨#[]⟩ : ByteArray) ++ (⟨#[114]⟩ : ByteArray)) ++ (⟨#[119]⟩ : ByteArray)), ()), ())
          else
            none
        else
          bif ((wI (Int.tdiv x0 (4 : Int))) == (1 : Int)) then
            bif (decide (((((⟨#[]⟩ : ByteArray) ++ (⟨#[114]⟩ : ByteArray)).size + (⟨#[120]⟩ : ByteArray).size : Nat) : Int) ≤ IntKind.i64.max)) then
              some (((((⟨#[]⟩ : ByteArray) ++ (⟨#[114]⟩ : ByteArray)) ++ (⟨#[120]⟩ : ByteArray)), ()), ())
            else
              none
          else
            some ((((⟨#[]⟩ : ByteArray) ++ (⟨#[114]⟩ : ByteArray)), ()), ())
      else
        none
    else
      bif ((Int.tmod (wI (Int.tdiv x0 (2 : Int))) (2 : Int)) == (1 : Int)) then
        bif (decide ((((⟨#[]⟩ : ByteArray).size + (⟨#[119]⟩ : ByteArray).size : Nat) : Int) ≤ IntKind.i64.max)) then
          bif ((wI (Int.tdiv x0 (4 : Int))) == (1 : Int)) then
            bif (decide (((((⟨#[]⟩ : ByteArray) ++ (⟨#[119]⟩ : ByteArray)).size + (⟨#[120]⟩ : ByteArray).size : Nat) : Int) ≤ IntKind.i64.max)) then
              some (((((⟨#[]⟩ : ByteArray) ++ (⟨#[119]⟩ : ByteArray)) ++ (⟨#[120]⟩ : ByteArray)), ()), ())
            else
              none
          else
            some ((((⟨#[]⟩ : ByteArray) ++ (⟨#[119]⟩ : ByteArray)), ()), ())
        else
          none
      else
        bif ((wI (Int.tdiv x0 (4 : Int))) == (1 : Int)) then
          bif (decide ((((⟨#[]⟩ : ByteArray).size + (⟨#[120]⟩ : ByteArray).size : Nat) : Int) ≤ IntKind.i64.max)) then
            some ((((⟨#[]⟩ : ByteArray) ++ (⟨#[120]⟩ : ByteArray)), ()), ())
          else
            none
        else
          some (((⟨#[]⟩ : ByteArray), ()), ())
noncomputable def c13 : Ctr := { ins := [.v (.int .i64)], out := [.str], F := fun x => g13 x.1 }
theorem v13 : LoopsOk Try.prog Γ t13 a13 (loopsIn (Try.f13.body.getD .skip) 0) := loopsOk_nil (by kernel_rfl)
theorem r13 (x : InsT c13.ins) : fnK Try.prog Γ t13 a13 Try.f13 c13 x = g13 x.1 := by kernel_rfl
theorem k13 : TblOk Try.prog t13 := tblOk_cons o60 (tblOk_nil)
theorem o13 : Holds Try.prog 13 c13 := fn_holds (code := Try.f13.body.getD .skip) (by kernel_rfl) gamOk k13 Try.func13 (by kernel_rfl) (by kernel_rfl) (by kernel_rfl) (by kernel_rfl) v13 (fun x _ h => (r13 x).trans h)
/-! ### 61: loop.example/g00076/impl.within -/
noncomputable def t61 : Tbl := []
noncomputable def a61 : Nat → Option LoopAnn := fun _ => none
noncomputable def g61 (x0 : Int) (x1 : Int) (x2 : Int) : Option ((Bool × Unit) × Unit) :=
  bif (decide (x0 ≥ x1)) then
    some (((decide (x0 ≤ x2)), ()), ())
  else
    some ((false, ()), ())
noncomputable def f61 (x0 : Int) (x1 : Int) (x2 : Int) : Bool :=
  bif (decide (x0 ≥ x1)) then
    (decide (x0 ≤ x2))
  else
    false
theorem n61 (x0 : Int) (x1 : Int) (x2 : Int) : g61 x0 x1 x2 = some ((f61 x0 x1 x2, ()), ()) := by
  simp only [g61, f61, pull1]
noncomputable def c61 : Ctr := { ins := [.v (.int .i64), .v (.int .i64), .v (.int .i64)], out := [.bool], F := fun x => some ((f61 x.1 x.2.1 x.2.2.1, ()), ()) }
theorem v61 : LoopsOk Try.prog Γ t61 a61 (loopsIn (Try.f61.body.getD .skip) 0) := loopsOk_nil (by kernel_rfl)
theorem r61 (x : InsT c61.ins) : fnK Try.prog Γ t61 a61 Try.f61 c61 x = g61 x.1 x.2.1 x.2.2.1 := by kernel_rfl
theorem k61 : TblOk Try.prog t61 := tblOk_nil
theorem o61 : Holds Try.prog 61 c61 := fn_holds (code := Try.f61.body.getD .skip) (by kernel_rfl) gamOk k61 Try.func61 (by kernel_rfl) (by kernel_rfl) (by kernel_rfl) (by kernel_rfl) v61 (fun x _ h => (r61 x).trans ((n61 x.1 x.2.1 x.2.2.1).trans h))
/-! ### 62: loop.example/g00076/impl.permText -/
noncomputable def t62 : Tbl := []
noncomputable def a62 : Nat → Option LoopAnn := fun c => bif Nat.beq c 0 then some (.unroll 4 [0, 3, 6] [6]) else none
noncomputable def g62 (x0 : Int) : Option Ta0 :=
  bif ((andOf .i64 (shrOf .i64 x0 (0 : Int)) (1 : Int)) == (1 : Int)) then
    bif (decide ((((⟨#[]⟩ : ByteArray).size + (Utf8.encode (114 : Int)).size : Nat) : Int) ≤ IntKind.i64.max)) then
      bif ((andOf .i64 (shrOf .i64 x0 (1 : Int)) (1 : Int)) == (1 : Int)) then
        bif (decide (((((⟨#[]⟩ : ByteArray) ++ (Utf8.encode (114 : Int))).size + (Utf8.encode (119 : Int)).size : Nat) : Int) ≤ IntKind.i64.max)) then
          bif ((andOf .i64 (shrOf .i64 x0 (2 : Int)) (1 : Int)) == (1 : Int)) then
            bif (decide ((((((⟨#[]⟩ : ByteArray) ++ (Utf8.encode (114 : Int))) ++ (Utf8.encode (119 : Int))).size + (Utf8.encode (120 : Int)).size : Nat) : Int) ≤ IntKind.i64.max)) then
              some ((((((⟨#[]⟩ : ByteArray) ++ (Utf8.encode (114 : Int))) ++ (Utf8.encode (119 : Int))) ++ (Utf8.encode (120 : Int))), ()), ())
            else
              none
          else
            some (((((⟨#[]⟩ : ByteArray) ++ (Utf8.encode (114 : Int))) ++ (Utf8.encode (119 : Int))), ()), ())
        else
          none
      else
        bif ((andOf .i64 (shrOf .i64 x0 (2 : Int)) (1 : Int)) == (1 : Int)) then
          bif (decide (((((⟨#[]⟩ : ByteArray) ++ (Utf8.encode (114 : Int))).size + (Utf8.encode (120 : Int)).size : Nat) : Int) ≤ IntKind.i64.max)) then
            some (((((⟨#[]⟩ : ByteArray) ++ (Utf8.encode (114 : Int))) ++ (Utf8.encode (120 : Int))), ()), ())
          else
            none
        else
          some ((((⟨#[]⟩ : ByteArray) ++ (Utf8.encode (114 : Int))), ()), ())
    else
      none
  else
    bif ((andOf .i64 (shrOf .i64 x0 (1 : Int)) (1 : Int)) == (1 : Int)) then
      bif (decide ((((⟨#[]⟩ : ByteArray).size + (Utf8.encode (119 : Int)).size : Nat) : Int) ≤ IntKind.i64.max)) then
        bif ((andOf .i64 (shrOf .i64 x0 (2 : Int)) (1 : Int)) == (1 : Int)) then
          bif (decide (((((⟨#[]⟩ : ByteArray) ++ (Utf8.encode (119 : Int))).size + (Utf8.encode (120 : Int)).size : Nat) : Int) ≤ IntKind.i64.max)) then
            some (((((⟨#[]⟩ : ByteArray) ++ (Utf8.encode (119 : Int))) ++ (Utf8.encode (120 : Int))), ()), ())
          else
            none
        else
          some ((((⟨#[]⟩ : ByteArray) ++ (Utf8.encode (119 : Int))), ()), ())
      else
        none
    else
      bif ((andOf .i64 (shrOf .i64 x0 (2 : Int)) (1 : Int)) == (1 : Int)) then
        bif (decide ((((⟨#[]⟩ : ByteArray).size + (Utf8.encode (120 : Int)).size : Nat) : Int) ≤ IntKind.i64.max)) then
          some ((((⟨#[]⟩ : ByteArray) ++ (Utf8.encode (120 : Int))), ()), ())
        else
          none
      else
        some (((⟨#[]⟩ : ByteArray), ()), ())
noncomputable def c62 : Ctr := { ins := [.v (.int .i64)], out := [.str], F := fun x => g62 x.1 }
noncomputable def l62 : List (Nat × Code) := loopsIn (Try.f62.body.getD .skip) 0
theorem v62 : LoopsOk Try.prog Γ t62 a62 (loopsIn (Try.f62.body.getD .skip) 0) := by
  have e : loopsIn (Try.f62.body.getD .skip) 0 = [(0, (l62.getD 0 (0, .skip)).2)] := by kernel_rfl
  rw [e]
  exact ⟨trivial, trivial⟩
theorem r62 (x : InsT c62.ins) : fnK Try.prog Γ t62 a62 Try.f62 c62 x = g62 x.1 := by kernel_rfl
theorem k62 : TblOk Try.prog t62 := tblOk_nil
theorem o62 : Holds Try.prog 62 c62 := fn_holds (code := Try.f62.body.getD .skip) (by kernel_rfl) gamOk k62 Try.func62 (by kernel_rfl) (by kernel_rfl) (by kernel_rfl) (by kernel_rfl) v62 (fun x _ h => (r62 x).trans h)
/-! ### 14: loop.example/g00076/impl.PermText -/
noncomputable def t14 : Tbl := [(61, [], c61), (62, [], c62)]
noncomputable def a14 : Nat → Option LoopAnn := fun _ => none
noncomputable def g14 (x0 : Int) : Option Ta0 :=
  bif (!(f61 x0 (1 : Int) (7 : Int))) then
    some (((⟨#[]⟩ : ByteArray), ()), ())
  else
    (g62 x0).bind fun y1 =>
      some ((y1.1.1, ()), ())
noncomputable def c14 : Ctr := { ins := [.v (.int .i64)], out := [.str], F := fun x => g14 x.1 }
theorem v14 : LoopsOk Try.prog Γ t14 a14 (loopsIn (Try.f14.body.getD .skip) 0) := loopsOk_nil (by kernel_rfl)
theorem r14 (x : InsT c14.ins) : fnK Try.prog Γ t14 a14 Try.f14 c14 x = g14 x.1 := by kernel_rfl
theorem k14 : TblOk Try.prog t14 := tblOk_cons o61 (tblOk_cons o62 (tblOk_nil))
theorem o14 : Holds Try.prog 14 c14 := fn_holds (code := Try.f14.body.getD .skip) (by kernel_rfl) gamOk k14 Try.func14 (by kernel_rfl) (by kernel_rfl) (by kernel_rfl) (by kernel_rfl) v14 (fun x _ h => (r14 x).trans h)
/-! ### 3: loop.example/g00076/laws.FnExactPermText -/
noncomputable def t3 : Tbl := [(13, [], c13), (14, [], c14)]
noncomputable def a3 : Nat → Option LoopAnn := fun _ => none
noncomputable def g3 (x0 : Int) : Option ((Bool × Unit) × Unit) :=
  (g13 x0).bind fun y1 =>
    (g14 x0).bind fun y2 =>
      bif (!strEq y2.1.1 y1.1.1) then
        some ((false, ()), ())
      else
        some ((true, ()), ())
noncomputable def c3 : Ctr := { ins := [.v (.int .i64)], out := [.bool], F := fun x => g3 x.1 }
theorem v3 : LoopsOk Try.prog Γ t3 a3 (loopsIn (Try.f3.body.getD .skip) 0) := loopsOk_nil (by kernel_rfl)
theorem r3 (x : InsT c3.ins) : fnK Try.prog Γ t3 a3 Try.f3 c3 x = g3 x.1 := by kernel_rfl
theorem k3 : TblOk Try.prog t3 := tblOk_cons o13 (tblOk_cons o14 (tblOk_nil))
theorem o3 : Holds Try.prog 3 c3 := fn_holds (code := Try.f3.body.getD .skip) (by kernel_rfl) gamOk k3 Try.func3 (by kernel_rfl) (by kernel_rfl) (by kernel_rfl) (by kernel_rfl) v3 (fun x _ h => (r3 x).trans h)
end Go.VE.VFnExactPermText
