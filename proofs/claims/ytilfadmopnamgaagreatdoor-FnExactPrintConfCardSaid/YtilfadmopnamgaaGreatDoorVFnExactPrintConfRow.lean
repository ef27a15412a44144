import Derived.Test.YtilfadmopnamgaaGreatDoorCards
import Derived.Test.YtilfadmopnamgaaGreatDoorTie
import Derived.Test.YtilfadmopnamgaaGreatDoorVFnExactPrintConfPlain
import Derived.WalkKit
import Derived.ProofKit
import Derived.OpenShut
import Derived.ShutString
import Derived.ChangeOld
import Derived.Below
import Derived.SizedLaws
import Derived.Deep.DeepHandedRow
import Derived.Lib.LaidTab
import Derived.Stop.LaidErr
/- laws.FnExactPrintConf returns true for every input, and what it is handed reads as it did. The three package-level tables that its row lists hold what the program's text lays in them. -/
namespace Go.Proofs.YtilfadmopnamgaaGreatDoor.fnExactPrintConf
open Go.ChangeShapes Go.WideShapes Go.ChangeAt Go.RowKit
open Go.VE Go.VE.VFnExactPrintConf
set_option linter.unusedVariables false
theorem own : ownKnob Tryz.prog.godebug = none := by kernel_rfl
theorem laid : laidOutB Tryz.prog = true := by kernel_rfl
theorem gTab : Tryz.prog.globalNamed "internal/strconv.uint64pow10" = some 0 := by kernel_rfl
theorem gTabType : (Tryz.prog.globals[0]?).map (·.type) = some 139 := by kernel_rfl
theorem cellsT : Tryz.prog.cellsOf 139 = 20 := by kernel_rfl
theorem cellsE : Tryz.prog.cellsOf 132 = 1 := by kernel_rfl
theorem datum0 : Lib.pow10Tab = [1,10,100,1000,10000,100000,1000000,10000000,100000000,1000000000,10000000000,100000000000,1000000000000,10000000000000,100000000000000,1000000000000000,10000000000000000,100000000000000000,1000000000000000000,10000000000000000000] := by decide +kernel
theorem datum : (Rows.laid_internal_strconv_uint64pow10 : DataW Unit) = Lib.tabData .u64 Lib.pow10Tab := by
  rw [datum0]; unfold Rows.laid_internal_strconv_uint64pow10 Lib.tabData; simp only [List.map]
set_option maxRecDepth 100000 in
/-- What the row's list gives: the table of powers holds its twenty numbers. -/
theorem table {W : World} (h : laidMetH Tryz.prog Rows.fnExactPrintConfRow.laid W) : Lib.TabIs Tryz.prog W "internal/strconv.uint64pow10" .u64 Lib.pow10Tab := by
  have h2 := laidMet.tail (laidMet.tail h)
  rw [datum] at h2
  exact Lib.tabIs_of_head (rest := []) gTab gTabType Tryz.underlying139 Tryz.underlying132 cellsE cellsT h2
theorem lay {W : World} (h : laidMetH Tryz.prog Rows.fnExactPrintConfRow.laid W) : LayOk Tryz.prog stC W := ⟨table h, fun _ _ _ _ hc => nomatch hc⟩
set_option maxRecDepth 100000 in
/-- What the walk gives, for every argument and every world that holds the tables. -/
theorem contract (H : Type) (enc : TypeId × Value → H) (W : World) (base : Nat) (args : Array Value) (ds gs : List (DataW H)) (before : List MemPlace)
    (hval : ∀ (j : Nat) t v, Tryz.f3.params[j]? = some t → args[j]? = some v → Value.okWide Tryz.prog W .any base t v)
    (hW : DataW.Whole enc Tryz.prog Tryz.f3.params.toList Rows.fnExactPrintConfSpec.vars false W args.toList ds gs before)
    (hsz : (DataW.weightsEach Tryz.prog (Tryz.f3.params.toList ++ Rows.fnExactPrintConfSpec.plain.varTypes Tryz.prog) (ds ++ gs)).all (· ≤ reachBytes) = true)
    (hL : laidMetH Tryz.prog Rows.fnExactPrintConfRow.laid W) :
    Calls Tryz.prog 3 args W fun e W' => ∃ v, e = .returned v ∧ Rows.fnExactPrintConfSpec.post enc Tryz.prog Tryz.f3 false true false false W args v W' :=
  law_calls (lay hL) (tys := tysOf) (F := c3.F) o3 plain laid (by kernel_rfl) (tb := 4) rfl (by kernel_rfl) rfl (fun ds h => match ds, h with | [d0], _ => rfl) hval hW hsz
/-- A world for the witness: the settled one, the three tables holding what their initialisers lay. -/
def litsOf : DataW Unit → Array Value
  | .agg xs => (xs.filterMap fun | .lit (.int k z) => some (Value.int k z) | _ => none).toArray
  | _ => #[]
def put (d : DataW Unit) : Obj → Obj
  | .cells _ t frozen => .cells (litsOf d) t frozen
  | o => o
noncomputable def laidWorld (os : Os) : World :=
  { World.holding Tryz.prog os ⟨#[], #[], []⟩ with heap := (((World.holding Tryz.prog os ⟨#[], #[], []⟩).heap.modify 0 (put Rows.laid_internal_strconv_uint64pow10)).modify 1 (put Rows.laid_math_bits_deBruijn32tab)).modify 2 (put Rows.laid_math_bits_deBruijn64tab) }
def inp : Input := ⟨#[], #[.agg #[.int .i64 0, .int .i64 0, .int .i64 0, .int .i64 0, .int .i64 0, .int .i64 0, .int .i64 0, .int .i64 0, .int .i64 0, .int .i64 0, .int .i64 0, .int .i64 0, .int .i64 0, .int .i64 0, .int .i64 0, .slice none 0 0, .slice none 0 0, .slice none 0 0, .slice none 0 0]], []⟩
theorem laid_met (os : Os) : laidMet Tryz.prog Rows.fnExactPrintConfRow.laid ((laidWorld os).forCall (fun _ _ => 0) inp).memory :=
  laidMet_of_run' 8 (by kernel_rfl) (by kernel_rfl)
noncomputable def rd (os : Os) {H : Type} (enc : TypeId × Value → H) := DataW.whole enc Tryz.prog ((laidWorld os).forCall (fun _ _ => 0) inp).memory Tryz.f3.params.toList Rows.fnExactPrintConfSpec.vars false (#[.agg #[.int .i64 0, .int .i64 0, .int .i64 0, .int .i64 0, .int .i64 0, .int .i64 0, .int .i64 0, .int .i64 0, .int .i64 0, .int .i64 0, .int .i64 0, .int .i64 0, .int .i64 0, .int .i64 0, .int .i64 0, .slice none 0 0, .slice none 0 0, .slice none 0 0, .slice none 0 0]] : Array Value).toList 16
theorem reads (os : Os) {H : Type} (enc : TypeId × Value → H) : rd os enc = some (((rd os enc).map (·.1)).getD [], [], ((rd os enc).map (·.2.2)).getD []) := by kernel_rfl
set_option maxRecDepth 100000 in
theorem lifted (os : Os) (started : os.Started) (H : Type) (enc : TypeId × Value → H) (F : Stop.Interp) :
    ReturnsInHanded {} Tryz.checked os 3 .any ((OpenSpec.ofChange Rows.fnExactPrintConfSpec).preRow enc Tryz.prog Tryz.f3 Rows.fnExactPrintConfRow.domain false Rows.fnExactPrintConfRow.laid) (((OpenSpec.ofChange Rows.fnExactPrintConfSpec).at F).post enc Tryz.prog Tryz.f3 false true false false) := by
  have hx := reads os enc
  refine returnsInHanded_of_row (C := Tryz.checked) (s := OpenSpec.ofChange Rows.fnExactPrintConfSpec) own started (by kernel_rfl) Tryz.func3
    (witness_row_at (enc := enc) (C := Tryz.checked) false (laidWorld os) #[.agg #[.int .i64 0, .int .i64 0, .int .i64 0, .int .i64 0, .int .i64 0, .int .i64 0, .int .i64 0, .int .i64 0, .int .i64 0, .int .i64 0, .int .i64 0, .int .i64 0, .int .i64 0, .int .i64 0, .int .i64 0, .slice none 0 0, .slice none 0 0, .slice none 0 0, .slice none 0 0]] rfl (by kernel_rfl) (by kernel_rfl) (by kernel_rfl)
      (OpenSpec.preRow_of_cond 16 hx (by kernel_rfl) (fun k hk => by cases hk) (by kernel_rfl) (laid_met os))) ?_
  intro W base args ds gs before hval hW _ _ hsz hL _ _
  exact contract H enc W base args ds gs before hval hW hsz hL
theorem said : Rows.FnExactPrintConfSaid :=
  OpenClaim.holds_of_cond 3 Tryz.f3 rfl rfl rfl rfl rfl rfl rfl ⟨rfl, rfl, rfl, rfl, rfl⟩ rfl rfl rfl rfl rfl (by kernel_rfl) Tryz.func3 (by kernel_rfl)
    (of_decide_eq_true (by kernel_rfl)) (by unfold Func.isWrapper; first | (rw [if_pos (by decide +kernel)]; kernel_rfl) | (rw [if_neg (by decide +kernel)]; exact ⟨rfl, rfl⟩))
    (fun os started H enc _ F => by rw [OpenClaim.pre_eq_preRow]; exact lifted os started H enc F)
/-- No parameter wants a stand-in; the program's own looks are off. -/
theorem plainly (f : FuncId) (fn : Func) (hf : Tryz.pinned.checked.prog.funcNamed "loop.example/g00076/laws.FnExactPrintConf" = some f) (hfn : Tryz.pinned.checked.prog.funcs[f]? = some fn) :
    false = Tryz.pinned.checked.prog.looks [] ∧ ∀ (j : Nat) t, fn.params[j]? = some t → Tryz.pinned.checked.prog.wantsStandIn t = false := by
  obtain rfl : f = 3 := Option.some.inj ((show Tryz.prog.funcNamed "loop.example/g00076/laws.FnExactPrintConf" = some 3 by kernel_rfl).symm.trans hf) |>.symm
  obtain rfl : fn = Tryz.f3 := (Option.some.inj (Tryz.func3.symm.trans hfn)).symm
  refine ⟨by kernel_rfl, fun j t ht => ?_⟩
  rw [Tryz.params3] at ht
  obtain rfl : t = 31 := by simpa using Array.mem_of_getElem? ht
  exact (show Tryz.prog.wantsStandIn 31 = false by kernel_rfl)
theorem card : Rows.FnExactPrintConfCardSaid :=
  Claim7.holds_tied_plain_at .later [] _ _ _ _ said (fun _ h => by cases h) (by kernel_rfl) (fun _ h => by cases h) fnExactPrintConf_row_tie rfl ⟨rfl, rfl⟩ (by kernel_rfl) rfl plainly (by kernel_rfl)
#print axioms card
end Go.Proofs.YtilfadmopnamgaaGreatDoor.fnExactPrintConf
namespace Go.Proofs.YtilfadmopnamgaaGreatDoor
/-- The card, under a short name, for the claim. -/
theorem fnExactPrintConf_holds : Rows.FnExactPrintConfCardSaid := fnExactPrintConf.card
end Go.Proofs.YtilfadmopnamgaaGreatDoor
