import Derived.Test.YtgllenfbilnneaaGreatDoorCards
import Derived.Test.YtgllenfbilnneaaGreatDoorTie
import Derived.Test.YtgllenfbilnneaaGreatDoorVFnOwnPlain
import Derived.WalkKit
import Derived.ProofKit
import Derived.OpenShut
import Derived.ShutString
import Derived.ChangeOld
import Derived.Below
import Derived.SizedLaws
import Derived.Deep.DeepHandedRow
import Derived.Lib.LaidTab
import Derived.Stop.LaidErr
/- laws.FnOwn returns true for every input, and what it is handed reads as it did. The package-level table that its row lists holds what the program's text lays in it. -/
namespace Go.Proofs.YtgllenfbilnneaaGreatDoor.fnOwn
open Go.ChangeShapes Go.WideShapes Go.ChangeAt Go.RowKit
open Go.VE Go.VE.VFnOwn
set_option linter.unusedVariables false
theorem own : ownKnob Tryz.prog.godebug = none := by kernel_rfl
theorem laid : laidOutB Tryz.prog = true := by kernel_rfl
theorem gTab : Tryz.prog.globalNamed "math/bits.deBruijn32tab" = some 0 := by kernel_rfl
theorem gTabType : (Tryz.prog.globals[0]?).map (·.type) = some 382 := by kernel_rfl
theorem YF : Tryz.prog.cellsOf 382 = 32 := by kernel_rfl
theorem cellsE : Tryz.prog.cellsOf 5 = 1 := by kernel_rfl
def tz : List Nat := [0, 1, 28, 2, 29, 14, 24, 3, 30, 22, 20, 15, 25, 17, 4, 8, 31, 27, 13, 23, 21, 19, 16, 7, 26, 12, 18, 6, 11, 5, 10, 9]
def tzI : List Int := [0, 1, 28, 2, 29, 14, 24, 3, 30, 22, 20, 15, 25, 17, 4, 8, 31, 27, 13, 23, 21, 19, 16, 7, 26, 12, 18, 6, 11, 5, 10, 9]
theorem datum : (Rows.laid_math_bits_deBruijn32tab : DataW Unit) = Lib.tabData .u8 tzI := by
  unfold Rows.laid_math_bits_deBruijn32tab Lib.tabData tzI; simp only [List.map]
set_option maxRecDepth 100000 in
/-- What the row's list gives: the table behind math/bits.TrailingZeros32 holds its numbers. -/
theorem lay {W : World} (h : laidMetH Tryz.prog Rows.fnOwnRow.laid W) : Ct M4 W := by
  have h2 : laidMet _ _ W := h
  unfold Rows.fnOwnRow at h2
  simp only at h2
  rw [datum] at h2
  have h3 := Lib.tabIs_of_head (rest := []) gTab gTabType Tryz.underlying382 Tryz.underlying5 cellsE YF h2
  refine ⟨fun j hj => ?_, fun _ _ hc => nomatch hc⟩
  have k := h3.cell gTab j hj
  have e : ∀ j, j < 32 → tzI.getD j 0 = ((tz.getD j 0 : Nat) : Int) := by decide
  rw [e j hj] at k
  exact k
set_option maxRecDepth 100000 in
/-- What the walk gives, for every argument and every world that holds the tables. -/
theorem contract (H : Type) (enc : TypeId × Value → H) (W : World) (base : Nat) (args : Array Value) (ds gs : List (DataW H)) (before : List MemPlace)
    (hval : ∀ (j : Nat) t v, Tryz.f5.params[j]? = some t → args[j]? = some v → Value.okWide Tryz.prog W .any base t v)
    (hW : DataW.Whole enc Tryz.prog Tryz.f5.params.toList Rows.fnOwnSpec.vars false W args.toList ds gs before)
    (hsz : (DataW.weightsEach Tryz.prog (Tryz.f5.params.toList ++ Rows.fnOwnSpec.plain.varTypes Tryz.prog) (ds ++ gs)).all (· ≤ reachBytes) = true)
    (hL : laidMetH Tryz.prog Rows.fnOwnRow.laid W) :
    Calls Tryz.prog 5 args W fun e W' => ∃ v, e = .returned v ∧ Rows.fnOwnSpec.post enc Tryz.prog Tryz.f5 false true false false W args v W' :=
  Mk (lay hL) (tys := UN) (F := c5.F) o5 plain laid (by kernel_rfl) (tb := 4) rfl (by kernel_rfl) rfl (fun ds h => match ds, h with | [d0], _ => rfl) hval hW hsz
/-- A world for the witness: the settled one, the table holding what its initialiser lays. -/
def YG : DataW Unit → Array Value
  | .agg xs => (xs.filterMap fun | .lit (.int k z) => some (Value.int k z) | _ => none).toArray
  | _ => #[]
def put (d : DataW Unit) : Obj → Obj
  | .cells _ t frozen => .cells (YG d) t frozen
  | o => o
noncomputable def laidWorld (os : Os) : World :=
  { World.holding Tryz.prog os ⟨#[], #[], []⟩ with heap := (World.holding Tryz.prog os ⟨#[], #[], []⟩).heap.modify 0 (put Rows.laid_math_bits_deBruijn32tab) }
def inp : Input := ⟨#[], #[.slice none 0 0], []⟩
theorem laid_met (os : Os) : laidMet Tryz.prog Rows.fnOwnRow.laid ((laidWorld os).forCall (fun _ _ => 0) inp).memory :=
  laidMet_of_run' 8 (by kernel_rfl) (by kernel_rfl)
noncomputable def rd (os : Os) {H : Type} (enc : TypeId × Value → H) := DataW.whole enc Tryz.prog ((laidWorld os).forCall (fun _ _ => 0) inp).memory Tryz.f5.params.toList Rows.fnOwnSpec.vars false (#[.slice none 0 0] : Array Value).toList 16
theorem reads (os : Os) {H : Type} (enc : TypeId × Value → H) : rd os enc = some (((rd os enc).map (·.1)).getD [], [], ((rd os enc).map (·.2.2)).getD []) := by kernel_rfl
set_option maxRecDepth 100000 in
theorem lifted (os : Os) (started : os.Started) (H : Type) (enc : TypeId × Value → H) (F : Stop.Interp) :
    ReturnsInHanded {} Tryz.checked os 5 .any ((OpenSpec.ofChange Rows.fnOwnSpec).preRow enc Tryz.prog Tryz.f5 Rows.fnOwnRow.domain false Rows.fnOwnRow.laid) (((OpenSpec.ofChange Rows.fnOwnSpec).at F).post enc Tryz.prog Tryz.f5 false true false false) := by
  have hx := reads os enc
  refine returnsInHanded_of_row (C := Tryz.checked) (s := OpenSpec.ofChange Rows.fnOwnSpec) own started (by kernel_rfl) Tryz.func5
    (witness_row_at (enc := enc) (C := Tryz.checked) false (laidWorld os) #[.slice none 0 0] rfl (by kernel_rfl) (by kernel_rfl) (by kernel_rfl)
      (OpenSpec.preRow_of_cond 16 hx (by kernel_rfl) (fun k hk => by cases hk) (by kernel_rfl) (laid_met os))) ?_
  intro W base args ds gs before hval hW _ _ hsz hL _ _
  exact contract H enc W base args ds gs before hval hW hsz hL
theorem j0 : (Rows.fnOwnRow.wf (OpenSpec.ofChange Rows.fnOwnSpec)) = true := by kernel_rfl
theorem j1 : (laidOutB Tryz.pinned.checked.prog) = true := by kernel_rfl
theorem j2 : (mapsRowed Tryz.pinned.checked.prog) = true := by kernel_rfl
theorem j3 : (Tryz.f5.params.all (Tryz.pinned.checked.prog.readableRec ·)) = true := by kernel_rfl
theorem j4 : (namedTie Tryz.pinned.checked.prog Rows.fnOwnRow.named Rows.fnOwnSpec.vars) = true := by kernel_rfl
theorem j5 : ((Rows.fnOwnRow.stops == [])) = true := by kernel_rfl
theorem j6 : ((Tryz.pinned.checked.prog.stops == [])) = true := by kernel_rfl
theorem j7 : ((Rows.fnOwnRow.knobs == [])) = true := by kernel_rfl
theorem j8 : ((Tryz.pinned.checked.prog.stopKnobs == [])) = true := by kernel_rfl
theorem j9 : ((Rows.fnOwnRow.inPlace == Tryz.pinned.checked.prog.inPlace (5 : FuncId))) = true := by kernel_rfl
theorem j10 : ((Rows.fnOwnRow.unfollowed == Tryz.pinned.checked.prog.unfollowed (5 : FuncId))) = true := by kernel_rfl
theorem j11 : ((Rows.fnOwnRow.recurses == Tryz.pinned.checked.prog.recurses (5 : FuncId))) = true := by kernel_rfl
theorem j12 : ((Rows.fnOwnRow.named == Tryz.pinned.checked.prog.varsNamed (5 : FuncId))) = true := by kernel_rfl
theorem j13 : ((Rows.fnOwnRow.maps == (Tryz.f5.params.toList ++ Rows.fnOwnSpec.plain.varTypes Tryz.pinned.checked.prog).any (Tryz.pinned.checked.prog.mapsRec ·))) = true := by kernel_rfl
theorem j14 : ((Rows.fnOwnRow.ifaces == (Tryz.f5.params.toList ++ Rows.fnOwnSpec.plain.varTypes Tryz.pinned.checked.prog).any (Tryz.pinned.checked.prog.ifacesRec ·))) = true := by kernel_rfl
theorem j15 : ((Rows.fnOwnRow.mapsOut == Tryz.pinned.checked.prog.mapsAmong Tryz.f5.resultTypes.toList)) = true := by kernel_rfl
theorem j16 : ((Rows.fnOwnRow.loops == (Tryz.f5.params.toList ++ Rows.fnOwnSpec.plain.varTypes Tryz.pinned.checked.prog).any (Tryz.pinned.checked.prog.loopsFrom ·))) = true := by kernel_rfl
theorem j17 : ((Rows.fnOwnRow.wideKeys == (Tryz.f5.params.toList ++ Rows.fnOwnSpec.plain.varTypes Tryz.pinned.checked.prog ++ Tryz.f5.resultTypes.toList).any (Tryz.pinned.checked.prog.wideKeysFrom ·))) = true := by kernel_rfl
theorem j18 : (Rows.fnOwnSpec.vars.all (Tryz.pinned.checked.prog.varReadable ·)) = true := by kernel_rfl
theorem j19 : (Tryz.f5.resultTypes.all (fun t => Tryz.pinned.checked.prog.readableRec t && decide (t < Tryz.pinned.checked.prog.types.size))) = true := by kernel_rfl
theorem j20 : ((Rows.fnOwnRow.ifacesOut == Tryz.f5.resultTypes.toList.any (Tryz.pinned.checked.prog.ifacesRec ·))) = true := by kernel_rfl
theorem j21 : ((Rows.fnOwnRow.loopsOut == Tryz.f5.resultTypes.toList.any (Tryz.pinned.checked.prog.loopsFrom ·))) = true := by kernel_rfl
theorem j22 : ((Rows.fnOwnRow.plainKeys == Tryz.pinned.checked.prog.plainKeys)) = true := by kernel_rfl
theorem j23 : (Rows.fnOwnRow.shortTexts.isNone) = true := by kernel_rfl
theorem j24 : (Tryz.pinned.checked.prog.stopsHeard) = true := by kernel_rfl
theorem j25 : (Tryz.pinned.checked.prog.mayEnter) = true := by kernel_rfl
theorem j26 : ((Rows.fnOwnRow.lifted == Tryz.pinned.checked.prog.liftsFinal)) = true := by kernel_rfl
theorem j27 : ((Tryz.pinned.checked.prog.make == some Rows.fnOwnRow.make)) = true := by kernel_rfl
theorem j28 : ((Rows.fnOwnRow.kinds == (if Rows.fnOwnRow.domain.isEmpty then [] else Tryz.f5.params.toList.map fun t => match Tryz.pinned.checked.prog.underlying t with | some (.int k) => some k | _ => none))) = true := by kernel_rfl
theorem j29 : ((Rows.fnOwnRow.pinned == Rows.fnOwnRow.pinnedBy)) = true := by kernel_rfl
theorem j30 : ((Rows.fnOwnRow.veiled == (Tryz.f5.params.toList ++ Rows.fnOwnSpec.plain.varTypes Tryz.pinned.checked.prog ++ Tryz.f5.resultTypes.toList).any (Tryz.pinned.checked.prog.veiledRec ·))) = true := by kernel_rfl
theorem j31 : (Rows.fnOwnRow.veiledFits Tryz.pinned.checked.prog Tryz.f5.params.toList (Tryz.f5.params.toList ++ Rows.fnOwnSpec.plain.varTypes Tryz.pinned.checked.prog ++ Tryz.f5.resultTypes.toList)) = true := by kernel_rfl
theorem iN {a b : Bool} (h : a = true) (k : b = true) : (a && b) = true := by rw [h, k]; rfl
set_option maxRecDepth 100000 in
theorem closed : joinedFacts Tryz.pinned.checked.prog 5 Tryz.f5 Rows.fnOwnSpec Rows.fnOwnRow = true := by
  unfold joinedFacts
  exact (iN (iN (iN (iN (iN (iN (iN (iN (iN (iN (iN (iN (iN (iN (iN (iN (iN (iN (iN (iN (iN (iN (iN (iN (iN (iN (iN (iN (iN (iN (iN j0 j1) j2) j3) j4) j5) j6) j7) j8) j9) j10) j11) j12) j13) j14) j15) j16) j17) j18) j19) j20) j21) j22) j23) j24) j25) j26) j27) j28) j29) j30) j31)
theorem said : Rows.FnOwnSaid :=
  OpenClaim.holds_of_cond 5 Tryz.f5 rfl rfl rfl rfl rfl rfl rfl ⟨rfl, rfl, rfl, rfl, rfl⟩ rfl rfl rfl rfl rfl (by kernel_rfl) Tryz.func5 closed
    (of_decide_eq_true (by kernel_rfl)) (by unfold Func.isWrapper; first | (rw [if_pos (by decide +kernel)]; kernel_rfl) | (rw [if_neg (by decide +kernel)]; exact ⟨rfl, rfl⟩))
    (fun os started H enc _ F => by rw [OpenClaim.pre_eq_preRow]; exact lifted os started H enc F)
/-- No parameter wants a stand-in; the program's own looks are off. -/
theorem plainly (f : FuncId) (fn : Func) (hf : Tryz.pinned.checked.prog.funcNamed "loop.example/g00076/laws.FnOwn" = some f) (hfn : Tryz.pinned.checked.prog.funcs[f]? = some fn) :
    false = Tryz.pinned.checked.prog.looks [] ∧ ∀ (j : Nat) t, fn.params[j]? = some t → Tryz.pinned.checked.prog.wantsStandIn t = false := by
  obtain rfl : f = 5 := Option.some.inj ((show Tryz.prog.funcNamed "loop.example/g00076/laws.FnOwn" = some 5 by kernel_rfl).symm.trans hf) |>.symm
  obtain rfl : fn = Tryz.f5 := (Option.some.inj (Tryz.func5.symm.trans hfn)).symm
  refine ⟨by kernel_rfl, fun j t ht => ?_⟩
  rw [Tryz.params5] at ht
  have hm := Array.mem_of_getElem? ht
  simp only [List.mem_toArray, List.mem_cons, List.not_mem_nil, or_false] at hm
  rcases hm with rfl
  · exact (show Tryz.prog.wantsStandIn 84 = false by kernel_rfl)
theorem hw : Rows.fnOwnRow.wfByText (OpenSpec.ofChange Rows.fnOwnSpec) = true := by kernel_rfl
theorem hm : Tryz.pinned.checked.prog.mainIs = some (Rows.fnOwnCard.stood.harness.1, Rows.fnOwnCard.stood.harness.2.toList) := by kernel_rfl
theorem hg : false = Rows.fnOwnRow.goesBy Tryz.pinned.checked.prog := by kernel_rfl
theorem card : Rows.FnOwnCardSaid :=
  Claim7.holds_tied_plain_at .later [] _ _ _ _ said (fun _ h => by cases h) hw (fun _ h => by cases h) fnOwn_row_tie rfl ⟨rfl, rfl⟩ hm rfl plainly hg
#print axioms card
end Go.Proofs.YtgllenfbilnneaaGreatDoor.fnOwn
namespace Go.Proofs.YtgllenfbilnneaaGreatDoor
/-- The card, under a short name, for the claim. -/
theorem fnOwn_holds : Rows.FnOwnCardSaid := fnOwn.card
end Go.Proofs.YtgllenfbilnneaaGreatDoor
