import Derived.Test.YtgllenfbilnneaaGreatRows
import Derived.Test.YtgllenfbilnneaaGreatVFnExactPartRestartPlain
import Derived.WalkKit
import Derived.ProofKit
import Derived.OpenShut
import Derived.ShutString
import Derived.ChangeOld
import Derived.Below
import Derived.SizedLaws
/- laws.FnExactPartRestart returns true for every input, and what it is handed reads as it did. No condition is laid on the input. -/
namespace Go.Proofs.YtgllenfbilnneaaGreat.fnExactPartRestart
open Go.ChangeShapes Go.WideShapes Go.ChangeAt Go.RowKit
open Go.VE Go.VE.VFnExactPartRestart
set_option linter.unusedVariables false
theorem own : ownKnob Tryz.prog.godebug = none := by kernel_rfl
theorem laid : laidOutB Tryz.prog = true := by kernel_rfl
set_option maxRecDepth 100000 in
theorem lifted (os : Os) (started : os.Started) (H : Type) (enc : TypeId × Value → H) :
    ReturnsInHanded {} Tryz.checked os 5 .any (Rows.fnExactPartRestartSpec.pre6 enc Tryz.prog Tryz.f5 Rows.fnExactPartRestartRow.domain false) (Rows.fnExactPartRestartSpec.post enc Tryz.prog Tryz.f5 false true false false) := by
  refine returnsInHanded_of_change_sized (C := Tryz.checked) own started (by kernel_rfl) Tryz.func5
    (ChangeSpec.witness6 (enc := enc) (C := Tryz.checked) false ⟨#[], #[.agg #[.int .i64 0, .int .i64 0, .int .i64 0, .int .i64 0, .int .i64 0, .int .i64 0, .int .i64 0, .int .i64 0, .int .i64 0, .int .i64 0, .int .i64 0, .int .i64 0, .int .i64 0, .int .i64 0, .int .i64 0, .slice none 0 0, .slice none 0 0, .slice none 0 0, .slice none 0 0], .int .i64 0, .agg #[.slice none 0 0, .int .u32 0, .slice none 0 0, .bool false, .int .u32 0, .int .u32 0, .int .u32 0, .int .u32 0, .bool false, .bool false, .int .u32 0, .int .i64 0, .int .i64 0, .int .i64 0, .bool false, .int .i64 0, .int .i64 0, .int .i64 0, .slice none 0 0, .int .i64 0, .slice none 0 0, .int .i64 0, .bool false, .slice none 0 0, .slice none 0 0, .slice none 0 0, .slice none 0 0]], []⟩ 16 (by kernel_rfl) (by kernel_rfl) (by kernel_rfl) (by kernel_rfl)) ?_
  intro W base args ds gs before hval hW hcnd hsz _
  exact law_calls (tys := tysOf) (F := c5.F) o5 plain laid (by kernel_rfl) (tb := 4) rfl (by kernel_rfl) rfl (fun ds h => match ds, h with | [d0, d1, d2], _ => rfl) hval hW hsz
theorem j0 : (Rows.fnExactPartRestartRow.wf (OpenSpec.ofChange Rows.fnExactPartRestartSpec)) = true := by kernel_rfl
theorem j1 : (laidOutB Tryz.pinned.checked.prog) = true := by kernel_rfl
theorem j2 : (mapsRowed Tryz.pinned.checked.prog) = true := by kernel_rfl
theorem j3 : (Tryz.f5.params.all (Tryz.pinned.checked.prog.readableRec ·)) = true := by kernel_rfl
theorem j4 : (namedTie Tryz.pinned.checked.prog Rows.fnExactPartRestartRow.named Rows.fnExactPartRestartSpec.vars) = true := by kernel_rfl
theorem j5 : ((Rows.fnExactPartRestartRow.stops == [])) = true := by kernel_rfl
theorem j6 : ((Tryz.pinned.checked.prog.stops == [])) = true := by kernel_rfl
theorem j7 : ((Rows.fnExactPartRestartRow.knobs == [])) = true := by kernel_rfl
theorem j8 : ((Tryz.pinned.checked.prog.stopKnobs == [])) = true := by kernel_rfl
theorem j9 : ((Rows.fnExactPartRestartRow.inPlace == Tryz.pinned.checked.prog.inPlace (5 : FuncId))) = true := by kernel_rfl
theorem j10 : ((Rows.fnExactPartRestartRow.unfollowed == Tryz.pinned.checked.prog.unfollowed (5 : FuncId))) = true := by kernel_rfl
theorem j11 : ((Rows.fnExactPartRestartRow.recurses == Tryz.pinned.checked.prog.recurses (5 : FuncId))) = true := by kernel_rfl
theorem j12 : ((Rows.fnExactPartRestartRow.named == Tryz.pinned.checked.prog.varsNamed (5 : FuncId))) = true := by kernel_rfl
theorem j13 : ((Rows.fnExactPartRestartRow.maps == (Tryz.f5.params.toList ++ Rows.fnExactPartRestartSpec.plain.varTypes Tryz.pinned.checked.prog).any (Tryz.pinned.checked.prog.mapsRec ·))) = true := by kernel_rfl
theorem j14 : ((Rows.fnExactPartRestartRow.ifaces == (Tryz.f5.params.toList ++ Rows.fnExactPartRestartSpec.plain.varTypes Tryz.pinned.checked.prog).any (Tryz.pinned.checked.prog.ifacesRec ·))) = true := by kernel_rfl
theorem j15 : ((Rows.fnExactPartRestartRow.mapsOut == Tryz.pinned.checked.prog.mapsAmong Tryz.f5.resultTypes.toList)) = true := by kernel_rfl
theorem j16 : ((Rows.fnExactPartRestartRow.loops == (Tryz.f5.params.toList ++ Rows.fnExactPartRestartSpec.plain.varTypes Tryz.pinned.checked.prog).any (Tryz.pinned.checked.prog.loopsFrom ·))) = true := by kernel_rfl
theorem j17 : ((Rows.fnExactPartRestartRow.wideKeys == (Tryz.f5.params.toList ++ Rows.fnExactPartRestartSpec.plain.varTypes Tryz.pinned.checked.prog ++ Tryz.f5.resultTypes.toList).any (Tryz.pinned.checked.prog.wideKeysFrom ·))) = true := by kernel_rfl
theorem j18 : (Rows.fnExactPartRestartSpec.vars.all (Tryz.pinned.checked.prog.varReadable ·)) = true := by kernel_rfl
theorem j19 : (Tryz.f5.resultTypes.all (fun t => Tryz.pinned.checked.prog.readableRec t && decide (t < Tryz.pinned.checked.prog.types.size))) = true := by kernel_rfl
theorem j20 : ((Rows.fnExactPartRestartRow.ifacesOut == Tryz.f5.resultTypes.toList.any (Tryz.pinned.checked.prog.ifacesRec ·))) = true := by kernel_rfl
theorem j21 : ((Rows.fnExactPartRestartRow.loopsOut == Tryz.f5.resultTypes.toList.any (Tryz.pinned.checked.prog.loopsFrom ·))) = true := by kernel_rfl
theorem j22 : ((Rows.fnExactPartRestartRow.plainKeys == Tryz.pinned.checked.prog.plainKeys)) = true := by kernel_rfl
theorem j23 : (Rows.fnExactPartRestartRow.shortTexts.isNone) = true := by kernel_rfl
theorem j24 : (Tryz.pinned.checked.prog.stopsHeard) = true := by kernel_rfl
theorem j25 : (Tryz.pinned.checked.prog.mayEnter) = true := by kernel_rfl
theorem j26 : ((Rows.fnExactPartRestartRow.lifted == Tryz.pinned.checked.prog.liftsFinal)) = true := by kernel_rfl
theorem j27 : ((Tryz.pinned.checked.prog.make == some Rows.fnExactPartRestartRow.make)) = true := by kernel_rfl
theorem j28 : ((Rows.fnExactPartRestartRow.kinds == (if Rows.fnExactPartRestartRow.domain.isEmpty then [] else Tryz.f5.params.toList.map fun t => match Tryz.pinned.checked.prog.underlying t with | some (.int k) => some k | _ => none))) = true := by kernel_rfl
theorem j29 : ((Rows.fnExactPartRestartRow.pinned == Rows.fnExactPartRestartRow.pinnedBy)) = true := by kernel_rfl
theorem j30 : ((Rows.fnExactPartRestartRow.veiled == (Tryz.f5.params.toList ++ Rows.fnExactPartRestartSpec.plain.varTypes Tryz.pinned.checked.prog ++ Tryz.f5.resultTypes.toList).any (Tryz.pinned.checked.prog.veiledRec ·))) = true := by kernel_rfl
theorem j31 : (Rows.fnExactPartRestartRow.veiledFits Tryz.pinned.checked.prog Tryz.f5.params.toList (Tryz.f5.params.toList ++ Rows.fnExactPartRestartSpec.plain.varTypes Tryz.pinned.checked.prog ++ Tryz.f5.resultTypes.toList)) = true := by kernel_rfl
theorem and2 {a b : Bool} (h : a = true) (k : b = true) : (a && b) = true := by rw [h, k]; rfl
set_option maxRecDepth 100000 in
theorem closed : joinedFacts Tryz.pinned.checked.prog 5 Tryz.f5 Rows.fnExactPartRestartSpec Rows.fnExactPartRestartRow = true := by
  unfold joinedFacts
  exact (and2 (and2 (and2 (and2 (and2 (and2 (and2 (and2 (and2 (and2 (and2 (and2 (and2 (and2 (and2 (and2 (and2 (and2 (and2 (and2 (and2 (and2 (and2 (and2 (and2 (and2 (and2 (and2 (and2 (and2 (and2 j0 j1) j2) j3) j4) j5) j6) j7) j8) j9) j10) j11) j12) j13) j14) j15) j16) j17) j18) j19) j20) j21) j22) j23) j24) j25) j26) j27) j28) j29) j30) j31)
theorem over : Rows.fnExactPartRestartRow.holds Tryz.pinned (OpenSpec.ofChange Rows.fnExactPartRestartSpec) :=
  OpenClaim.holds_of_wide 5 Tryz.f5 rfl rfl rfl rfl rfl rfl rfl ⟨rfl, rfl, rfl, rfl, rfl⟩ rfl rfl rfl rfl rfl (by kernel_rfl) Tryz.func5 closed
    (of_decide_eq_true (by kernel_rfl)) (by unfold Func.isWrapper; first | (rw [if_pos (by decide +kernel)]; kernel_rfl) | (rw [if_neg (by decide +kernel)]; exact ⟨rfl, rfl⟩))
    (fun os started H enc _ => lifted os started H enc)
theorem proved : Rows.FnExactPartRestartSaid := over
#print axioms proved
end Go.Proofs.YtgllenfbilnneaaGreat.fnExactPartRestart
namespace Go.Proofs.YtgllenfbilnneaaGreat
/-- The row, under a short name, for the claim. -/
theorem fnExactPartRestart_holds : Rows.FnExactPartRestartSaid := fnExactPartRestart.proved
end Go.Proofs.YtgllenfbilnneaaGreat
