/-
  No cell of these rows narrows 'for every input' (looked for: loops, veiled, ifaces, maps, wideKeys, modest, calm, conditions, laid).
  DERIVED. THE GIVEN ROWS OF THIS SEAT. 10 by the template 'for every input the law returns true; each argument reads behind the call as it read before'; 0 by the template 'total and deterministic' (their statements: YtlgaidekljnpjaaGreatTotals.lean).
  GIVEN WITH THE SEED: the statements are not yours to turn. If you find one false, say at which input.
  Laid BY PROGRAM, IN A SANDBOX (cutbox-rows.mjs): the forced cells as the released guide's own fill.sh prints them over the translation 928861158b84c7bb… (all of the seat's roots in one cut). By AI agents, Wed Nov 11 2026. No macro, syntax, notation, axiom, sorry.
-/
import Derived.Test.YtlgaidekljnpjaaGreatChecked
import GoSem.Claim
import GoSem.ClaimJoined
import GoSem.ClaimMapViews
import Derived.JoinedTies
import Derived.KernelRfl
namespace Go.Proofs.YtlgaidekljnpjaaGreat
/- THE CELL 'sum', in the pinned program and in every row, IS THE sha256 OF THE DUMP (.gsa) THAT YtlgaidekljnpjaaGreatProg.lean LOADS. Nothing in Lean hashes anything: it is a label: what it is worth is what the hold of that sum in a sandbox is worth. -/
noncomputable def Tryz.pinned : Pinned := { name := "ytlgaidekljnpjaagreat", sum := "928861158b84c7bbc0b59e1aef3b037a9d33896149e32c2da3eeec2377c02fa2", checked := Tryz.checked }
namespace Rows
def none {H : Type} : Left H := { results := [], args := [] }

/-- 'laws.FnExactSlotAt': WHATEVER THE INPUT: true; the input reads as it did. -/
def fnExactSlotAtSpec : ChangeSpec := { name := "fnExactSlotAt", fn := fun _ => fun
  | [d1, d2] => { results := [.lit (.bool true)], args := [d1, d2] }
  | _ => none }
def fnExactSlotAtRow : OpenClaim := { program := "ytlgaidekljnpjaagreat", sum := "928861158b84c7bbc0b59e1aef3b037a9d33896149e32c2da3eeec2377c02fa2", func := "loop.example/g00076/laws.FnExactSlotAt", spec := "fnExactSlotAt", unfollowed := true, recurses := true, apart := false }
def FnExactSlotAtSaid : Prop := fnExactSlotAtRow.holds Tryz.pinned (OpenSpec.ofChange fnExactSlotAtSpec)

/-- ITS FALSE NEIGHBOUR: 'it returns false'. Refute it at one input. -/
def fnExactSlotAtWrong : ChangeSpec := { name := "fnExactSlotAt", fn := fun _ => fun
  | [d1, d2] => { results := [.lit (.bool false)], args := [d1, d2] }
  | _ => none }
def FnExactSlotAtWrongFalsely : Prop := fnExactSlotAtRow.holds Tryz.pinned (OpenSpec.ofChange fnExactSlotAtWrong)

/-- 'laws.FnExactPhaseAt': WHATEVER THE INPUT: true; the input reads as it did. -/
def fnExactPhaseAtSpec : ChangeSpec := { name := "fnExactPhaseAt", fn := fun _ => fun
  | [d1, d2] => { results := [.lit (.bool true)], args := [d1, d2] }
  | _ => none }
def fnExactPhaseAtRow : OpenClaim := { program := "ytlgaidekljnpjaagreat", sum := "928861158b84c7bbc0b59e1aef3b037a9d33896149e32c2da3eeec2377c02fa2", func := "loop.example/g00076/laws.FnExactPhaseAt", spec := "fnExactPhaseAt", unfollowed := true, recurses := true, apart := false }
def FnExactPhaseAtSaid : Prop := fnExactPhaseAtRow.holds Tryz.pinned (OpenSpec.ofChange fnExactPhaseAtSpec)

/-- ITS FALSE NEIGHBOUR: 'it returns false'. Refute it at one input. -/
def fnExactPhaseAtWrong : ChangeSpec := { name := "fnExactPhaseAt", fn := fun _ => fun
  | [d1, d2] => { results := [.lit (.bool false)], args := [d1, d2] }
  | _ => none }
def FnExactPhaseAtWrongFalsely : Prop := fnExactPhaseAtRow.holds Tryz.pinned (OpenSpec.ofChange fnExactPhaseAtWrong)

/-- 'laws.FnExactHolderAt': WHATEVER THE INPUT: true; the input reads as it did. -/
def fnExactHolderAtSpec : ChangeSpec := { name := "fnExactHolderAt", fn := fun _ => fun
  | [d1, d2] => { results := [.lit (.bool true)], args := [d1, d2] }
  | _ => none }
def fnExactHolderAtRow : OpenClaim := { program := "ytlgaidekljnpjaagreat", sum := "928861158b84c7bbc0b59e1aef3b037a9d33896149e32c2da3eeec2377c02fa2", func := "loop.example/g00076/laws.FnExactHolderAt", spec := "fnExactHolderAt", unfollowed := true, recurses := true, apart := false }
def FnExactHolderAtSaid : Prop := fnExactHolderAtRow.holds Tryz.pinned (OpenSpec.ofChange fnExactHolderAtSpec)

/-- ITS FALSE NEIGHBOUR: 'it returns false'. Refute it at one input. -/
def fnExactHolderAtWrong : ChangeSpec := { name := "fnExactHolderAt", fn := fun _ => fun
  | [d1, d2] => { results := [.lit (.bool false)], args := [d1, d2] }
  | _ => none }
def FnExactHolderAtWrongFalsely : Prop := fnExactHolderAtRow.holds Tryz.pinned (OpenSpec.ofChange fnExactHolderAtWrong)

/-- 'laws.FnExactMayBegin': WHATEVER THE INPUT: true; the input reads as it did. -/
def fnExactMayBeginSpec : ChangeSpec := { name := "fnExactMayBegin", fn := fun _ => fun
  | [d1, d2] => { results := [.lit (.bool true)], args := [d1, d2] }
  | _ => none }
def fnExactMayBeginRow : OpenClaim := { program := "ytlgaidekljnpjaagreat", sum := "928861158b84c7bbc0b59e1aef3b037a9d33896149e32c2da3eeec2377c02fa2", func := "loop.example/g00076/laws.FnExactMayBegin", spec := "fnExactMayBegin", unfollowed := true, recurses := true, apart := false }
def FnExactMayBeginSaid : Prop := fnExactMayBeginRow.holds Tryz.pinned (OpenSpec.ofChange fnExactMayBeginSpec)

/-- ITS FALSE NEIGHBOUR: 'it returns false'. Refute it at one input. -/
def fnExactMayBeginWrong : ChangeSpec := { name := "fnExactMayBegin", fn := fun _ => fun
  | [d1, d2] => { results := [.lit (.bool false)], args := [d1, d2] }
  | _ => none }
def FnExactMayBeginWrongFalsely : Prop := fnExactMayBeginRow.holds Tryz.pinned (OpenSpec.ofChange fnExactMayBeginWrong)

/-- 'laws.FnExactCyclesOf': WHATEVER THE INPUT: true; the input reads as it did. -/
def fnExactCyclesOfSpec : ChangeSpec := { name := "fnExactCyclesOf", fn := fun _ => fun
  | [d1, d2, d3, d4] => { results := [.lit (.bool true)], args := [d1, d2, d3, d4] }
  | _ => none }
def fnExactCyclesOfRow : OpenClaim := { program := "ytlgaidekljnpjaagreat", sum := "928861158b84c7bbc0b59e1aef3b037a9d33896149e32c2da3eeec2377c02fa2", func := "loop.example/g00076/laws.FnExactCyclesOf", spec := "fnExactCyclesOf", unfollowed := true, recurses := true, apart := false }
def FnExactCyclesOfSaid : Prop := fnExactCyclesOfRow.holds Tryz.pinned (OpenSpec.ofChange fnExactCyclesOfSpec)

/-- ITS FALSE NEIGHBOUR: 'it returns false'. Refute it at one input. -/
def fnExactCyclesOfWrong : ChangeSpec := { name := "fnExactCyclesOf", fn := fun _ => fun
  | [d1, d2, d3, d4] => { results := [.lit (.bool false)], args := [d1, d2, d3, d4] }
  | _ => none }
def FnExactCyclesOfWrongFalsely : Prop := fnExactCyclesOfRow.holds Tryz.pinned (OpenSpec.ofChange fnExactCyclesOfWrong)

/-- 'laws.FnExactImageOk': WHATEVER THE INPUT: true; the input reads as it did. -/
def fnExactImageOkSpec : ChangeSpec := { name := "fnExactImageOk", fn := fun _ => fun
  | [d1, d2, d3] => { results := [.lit (.bool true)], args := [d1, d2, d3] }
  | _ => none }
def fnExactImageOkRow : OpenClaim := { program := "ytlgaidekljnpjaagreat", sum := "928861158b84c7bbc0b59e1aef3b037a9d33896149e32c2da3eeec2377c02fa2", func := "loop.example/g00076/laws.FnExactImageOk", spec := "fnExactImageOk", unfollowed := true, recurses := true, apart := false }
def FnExactImageOkSaid : Prop := fnExactImageOkRow.holds Tryz.pinned (OpenSpec.ofChange fnExactImageOkSpec)

/-- ITS FALSE NEIGHBOUR: 'it returns false'. Refute it at one input. -/
def fnExactImageOkWrong : ChangeSpec := { name := "fnExactImageOk", fn := fun _ => fun
  | [d1, d2, d3] => { results := [.lit (.bool false)], args := [d1, d2, d3] }
  | _ => none }
def FnExactImageOkWrongFalsely : Prop := fnExactImageOkRow.holds Tryz.pinned (OpenSpec.ofChange fnExactImageOkWrong)

/-- 'laws.FnExactInSlots': WHATEVER THE INPUT: true; the input reads as it did. -/
def fnExactInSlotsSpec : ChangeSpec := { name := "fnExactInSlots", fn := fun _ => fun
  | [d1, d2, d3] => { results := [.lit (.bool true)], args := [d1, d2, d3] }
  | _ => none }
def fnExactInSlotsRow : OpenClaim := { program := "ytlgaidekljnpjaagreat", sum := "928861158b84c7bbc0b59e1aef3b037a9d33896149e32c2da3eeec2377c02fa2", func := "loop.example/g00076/laws.FnExactInSlots", spec := "fnExactInSlots", unfollowed := true, recurses := true, apart := false }
def FnExactInSlotsSaid : Prop := fnExactInSlotsRow.holds Tryz.pinned (OpenSpec.ofChange fnExactInSlotsSpec)

/-- ITS FALSE NEIGHBOUR: 'it returns false'. Refute it at one input. -/
def fnExactInSlotsWrong : ChangeSpec := { name := "fnExactInSlots", fn := fun _ => fun
  | [d1, d2, d3] => { results := [.lit (.bool false)], args := [d1, d2, d3] }
  | _ => none }
def FnExactInSlotsWrongFalsely : Prop := fnExactInSlotsRow.holds Tryz.pinned (OpenSpec.ofChange fnExactInSlotsWrong)

/-- 'laws.FnExactFeedOk': WHATEVER THE INPUT: true; the input reads as it did. -/
def fnExactFeedOkSpec : ChangeSpec := { name := "fnExactFeedOk", fn := fun _ => fun
  | [d1, d2, d3, d4] => { results := [.lit (.bool true)], args := [d1, d2, d3, d4] }
  | _ => none }
def fnExactFeedOkRow : OpenClaim := { program := "ytlgaidekljnpjaagreat", sum := "928861158b84c7bbc0b59e1aef3b037a9d33896149e32c2da3eeec2377c02fa2", func := "loop.example/g00076/laws.FnExactFeedOk", spec := "fnExactFeedOk", unfollowed := true, recurses := true, apart := false }
def FnExactFeedOkSaid : Prop := fnExactFeedOkRow.holds Tryz.pinned (OpenSpec.ofChange fnExactFeedOkSpec)

/-- ITS FALSE NEIGHBOUR: 'it returns false'. Refute it at one input. -/
def fnExactFeedOkWrong : ChangeSpec := { name := "fnExactFeedOk", fn := fun _ => fun
  | [d1, d2, d3, d4] => { results := [.lit (.bool false)], args := [d1, d2, d3, d4] }
  | _ => none }
def FnExactFeedOkWrongFalsely : Prop := fnExactFeedOkRow.holds Tryz.pinned (OpenSpec.ofChange fnExactFeedOkWrong)

/-- 'laws.FnExactSwitchWork': WHATEVER THE INPUT: true; the input reads as it did. -/
def fnExactSwitchWorkSpec : ChangeSpec := { name := "fnExactSwitchWork", fn := fun _ => fun
  | [d1, d2, d3] => { results := [.lit (.bool true)], args := [d1, d2, d3] }
  | _ => none }
def fnExactSwitchWorkRow : OpenClaim := { program := "ytlgaidekljnpjaagreat", sum := "928861158b84c7bbc0b59e1aef3b037a9d33896149e32c2da3eeec2377c02fa2", func := "loop.example/g00076/laws.FnExactSwitchWork", spec := "fnExactSwitchWork", unfollowed := true, recurses := true, apart := false }
def FnExactSwitchWorkSaid : Prop := fnExactSwitchWorkRow.holds Tryz.pinned (OpenSpec.ofChange fnExactSwitchWorkSpec)

/-- ITS FALSE NEIGHBOUR: 'it returns false'. Refute it at one input. -/
def fnExactSwitchWorkWrong : ChangeSpec := { name := "fnExactSwitchWork", fn := fun _ => fun
  | [d1, d2, d3] => { results := [.lit (.bool false)], args := [d1, d2, d3] }
  | _ => none }
def FnExactSwitchWorkWrongFalsely : Prop := fnExactSwitchWorkRow.holds Tryz.pinned (OpenSpec.ofChange fnExactSwitchWorkWrong)

/-- 'laws.FnExactPartOk': WHATEVER THE INPUT: true; the input reads as it did. -/
def fnExactPartOkSpec : ChangeSpec := { name := "fnExactPartOk", fn := fun _ => fun
  | [d1, d2, d3] => { results := [.lit (.bool true)], args := [d1, d2, d3] }
  | _ => none }
def fnExactPartOkRow : OpenClaim := { program := "ytlgaidekljnpjaagreat", sum := "928861158b84c7bbc0b59e1aef3b037a9d33896149e32c2da3eeec2377c02fa2", func := "loop.example/g00076/laws.FnExactPartOk", spec := "fnExactPartOk", unfollowed := true, recurses := true, apart := false }
def FnExactPartOkSaid : Prop := fnExactPartOkRow.holds Tryz.pinned (OpenSpec.ofChange fnExactPartOkSpec)

/-- ITS FALSE NEIGHBOUR: 'it returns false'. Refute it at one input. -/
def fnExactPartOkWrong : ChangeSpec := { name := "fnExactPartOk", fn := fun _ => fun
  | [d1, d2, d3] => { results := [.lit (.bool false)], args := [d1, d2, d3] }
  | _ => none }
def FnExactPartOkWrongFalsely : Prop := fnExactPartOkRow.holds Tryz.pinned (OpenSpec.ofChange fnExactPartOkWrong)

/- THE SECOND FORM. 'bulk': how many values and letters a reading holds, each counted each time it is reached (what is shared counts as often as it is met; a slice's spare places count too). A statement '..UptoSaid' is the law's where the arguments, and the package variables that the reading takes, are together of bulk at most 1048576: NARROWER than '..Said'. Prove '..Said' where nothing that the law and all that it calls make is longer than what came in: it says more and counts as full. Else prove '..UptoSaid'. A law counts once. -/
mutual
def uptoBulk {H : Type} : DataW H → Nat
  | .lit (.string bytes) => bytes.length + 1
  | .lit _ => 1
  | .nil => 1
  | .ptr d => uptoBulk d + 1
  | .slice elems spare => uptoBulkAll elems + uptoBulkAll spare + 1
  | .agg parts => uptoBulkAll parts + 1
  | .iface _ d => uptoBulk d + 1
  | .map entries => uptoBulkEntries entries + 1
  | .held _ => 1
def uptoBulkAll {H : Type} : List (DataW H) → Nat
  | [] => 0
  | d :: r => uptoBulk d + uptoBulkAll r
def uptoBulkEntries {H : Type} : List (Lit × DataW H) → Nat
  | [] => 0
  | x :: r => uptoBulkEntry x + uptoBulkEntries r
def uptoBulkEntry {H : Type} : Lit × DataW H → Nat
  | (.string bytes, d) => bytes.length + uptoBulk d + 1
  | (_, d) => uptoBulk d + 1
 end
def uptoSmall : (H : Type) → List (DataW H) → Bool := fun _ ds => decide (uptoBulkAll ds ≤ 1048576)
def OpenSpec.upto (s : _root_.Go.ChangeSpec) : _root_.Go.OpenSpec := { _root_.Go.OpenSpec.ofChange s with cond := some uptoSmall }

/-- 'laws.FnExactSlotAt', WHERE WHAT IT READS IS OF BULK AT MOST 1048576: true; the input reads as it did. -/
def fnExactSlotAtUptoRow : OpenClaim := { program := "ytlgaidekljnpjaagreat", sum := "928861158b84c7bbc0b59e1aef3b037a9d33896149e32c2da3eeec2377c02fa2", func := "loop.example/g00076/laws.FnExactSlotAt", spec := "fnExactSlotAt", unfollowed := true, recurses := true, apart := false, narrowed := true }
def FnExactSlotAtUptoSaid : Prop := fnExactSlotAtUptoRow.holds Tryz.pinned (OpenSpec.upto fnExactSlotAtSpec)

/-- 'laws.FnExactPhaseAt', WHERE WHAT IT READS IS OF BULK AT MOST 1048576: true; the input reads as it did. -/
def fnExactPhaseAtUptoRow : OpenClaim := { program := "ytlgaidekljnpjaagreat", sum := "928861158b84c7bbc0b59e1aef3b037a9d33896149e32c2da3eeec2377c02fa2", func := "loop.example/g00076/laws.FnExactPhaseAt", spec := "fnExactPhaseAt", unfollowed := true, recurses := true, apart := false, narrowed := true }
def FnExactPhaseAtUptoSaid : Prop := fnExactPhaseAtUptoRow.holds Tryz.pinned (OpenSpec.upto fnExactPhaseAtSpec)

/-- 'laws.FnExactHolderAt', WHERE WHAT IT READS IS OF BULK AT MOST 1048576: true; the input reads as it did. -/
def fnExactHolderAtUptoRow : OpenClaim := { program := "ytlgaidekljnpjaagreat", sum := "928861158b84c7bbc0b59e1aef3b037a9d33896149e32c2da3eeec2377c02fa2", func := "loop.example/g00076/laws.FnExactHolderAt", spec := "fnExactHolderAt", unfollowed := true, recurses := true, apart := false, narrowed := true }
def FnExactHolderAtUptoSaid : Prop := fnExactHolderAtUptoRow.holds Tryz.pinned (OpenSpec.upto fnExactHolderAtSpec)

/-- 'laws.FnExactMayBegin', WHERE WHAT IT READS IS OF BULK AT MOST 1048576: true; the input reads as it did. -/
def fnExactMayBeginUptoRow : OpenClaim := { program := "ytlgaidekljnpjaagreat", sum := "928861158b84c7bbc0b59e1aef3b037a9d33896149e32c2da3eeec2377c02fa2", func := "loop.example/g00076/laws.FnExactMayBegin", spec := "fnExactMayBegin", unfollowed := true, recurses := true, apart := false, narrowed := true }
def FnExactMayBeginUptoSaid : Prop := fnExactMayBeginUptoRow.holds Tryz.pinned (OpenSpec.upto fnExactMayBeginSpec)

/-- 'laws.FnExactCyclesOf', WHERE WHAT IT READS IS OF BULK AT MOST 1048576: true; the input reads as it did. -/
def fnExactCyclesOfUptoRow : OpenClaim := { program := "ytlgaidekljnpjaagreat", sum := "928861158b84c7bbc0b59e1aef3b037a9d33896149e32c2da3eeec2377c02fa2", func := "loop.example/g00076/laws.FnExactCyclesOf", spec := "fnExactCyclesOf", unfollowed := true, recurses := true, apart := false, narrowed := true }
def FnExactCyclesOfUptoSaid : Prop := fnExactCyclesOfUptoRow.holds Tryz.pinned (OpenSpec.upto fnExactCyclesOfSpec)

/-- 'laws.FnExactImageOk', WHERE WHAT IT READS IS OF BULK AT MOST 1048576: true; the input reads as it did. -/
def fnExactImageOkUptoRow : OpenClaim := { program := "ytlgaidekljnpjaagreat", sum := "928861158b84c7bbc0b59e1aef3b037a9d33896149e32c2da3eeec2377c02fa2", func := "loop.example/g00076/laws.FnExactImageOk", spec := "fnExactImageOk", unfollowed := true, recurses := true, apart := false, narrowed := true }
def FnExactImageOkUptoSaid : Prop := fnExactImageOkUptoRow.holds Tryz.pinned (OpenSpec.upto fnExactImageOkSpec)

/-- 'laws.FnExactInSlots', WHERE WHAT IT READS IS OF BULK AT MOST 1048576: true; the input reads as it did. -/
def fnExactInSlotsUptoRow : OpenClaim := { program := "ytlgaidekljnpjaagreat", sum := "928861158b84c7bbc0b59e1aef3b037a9d33896149e32c2da3eeec2377c02fa2", func := "loop.example/g00076/laws.FnExactInSlots", spec := "fnExactInSlots", unfollowed := true, recurses := true, apart := false, narrowed := true }
def FnExactInSlotsUptoSaid : Prop := fnExactInSlotsUptoRow.holds Tryz.pinned (OpenSpec.upto fnExactInSlotsSpec)

/-- 'laws.FnExactFeedOk', WHERE WHAT IT READS IS OF BULK AT MOST 1048576: true; the input reads as it did. -/
def fnExactFeedOkUptoRow : OpenClaim := { program := "ytlgaidekljnpjaagreat", sum := "928861158b84c7bbc0b59e1aef3b037a9d33896149e32c2da3eeec2377c02fa2", func := "loop.example/g00076/laws.FnExactFeedOk", spec := "fnExactFeedOk", unfollowed := true, recurses := true, apart := false, narrowed := true }
def FnExactFeedOkUptoSaid : Prop := fnExactFeedOkUptoRow.holds Tryz.pinned (OpenSpec.upto fnExactFeedOkSpec)

/-- 'laws.FnExactSwitchWork', WHERE WHAT IT READS IS OF BULK AT MOST 1048576: true; the input reads as it did. -/
def fnExactSwitchWorkUptoRow : OpenClaim := { program := "ytlgaidekljnpjaagreat", sum := "928861158b84c7bbc0b59e1aef3b037a9d33896149e32c2da3eeec2377c02fa2", func := "loop.example/g00076/laws.FnExactSwitchWork", spec := "fnExactSwitchWork", unfollowed := true, recurses := true, apart := false, narrowed := true }
def FnExactSwitchWorkUptoSaid : Prop := fnExactSwitchWorkUptoRow.holds Tryz.pinned (OpenSpec.upto fnExactSwitchWorkSpec)

/-- 'laws.FnExactPartOk', WHERE WHAT IT READS IS OF BULK AT MOST 1048576: true; the input reads as it did. -/
def fnExactPartOkUptoRow : OpenClaim := { program := "ytlgaidekljnpjaagreat", sum := "928861158b84c7bbc0b59e1aef3b037a9d33896149e32c2da3eeec2377c02fa2", func := "loop.example/g00076/laws.FnExactPartOk", spec := "fnExactPartOk", unfollowed := true, recurses := true, apart := false, narrowed := true }
def FnExactPartOkUptoSaid : Prop := fnExactPartOkUptoRow.holds Tryz.pinned (OpenSpec.upto fnExactPartOkSpec)

end Rows
end Go.Proofs.YtlgaidekljnpjaaGreat
