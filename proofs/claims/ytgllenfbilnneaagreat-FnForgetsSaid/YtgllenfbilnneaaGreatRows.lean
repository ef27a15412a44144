/-
  No cell of these rows narrows 'for every input' (looked for: loops, veiled, ifaces, maps, wideKeys, modest, calm, conditions, laid).
  DERIVED. THE GIVEN ROWS OF THIS SEAT. 6 by the template 'for every input the law returns true; each argument reads behind the call as it read before'; 0 by the template 'total and deterministic' (their statements: YtgllenfbilnneaaGreatTotals.lean).
  GIVEN WITH THE SEED: the statements are not yours to turn. If you find one false, say at which input.
  Laid BY PROGRAM, IN A SANDBOX (cutbox-rows.mjs): the forced cells as the released guide's own fill.sh prints them over the translation bafe7c0123265b51… (all of the seat's roots in one cut). By AI agents, Wed Nov 11 2026. No macro, syntax, notation, axiom, sorry.
-/
import Derived.Test.YtgllenfbilnneaaGreatChecked
import GoSem.Claim
import GoSem.ClaimJoined
import GoSem.ClaimMapViews
import Derived.JoinedTies
import Derived.KernelRfl
namespace Go.Proofs.YtgllenfbilnneaaGreat
/- THE CELL 'sum', in the pinned program and in every row, IS THE sha256 OF THE DUMP (.gsa) THAT YtgllenfbilnneaaGreatProg.lean LOADS. Nothing in Lean hashes anything: it is a label: what it is worth is what the hold of that sum in a sandbox is worth. -/
noncomputable def Tryz.pinned : Pinned := { name := "ytgllenfbilnneaagreat", sum := "bafe7c0123265b51a90a58b1222002b75fa7ab49f8349c9f8bbf55bceafd7a08", checked := Tryz.checked }
namespace Rows
def none {H : Type} : Left H := { results := [], args := [] }

/-- 'laws.FnExactPartBoot': WHATEVER THE INPUT: true; the input reads as it did. -/
def fnExactPartBootSpec : ChangeSpec := { name := "fnExactPartBoot", fn := fun _ => fun
  | [d1, d2, d3] => { results := [.lit (.bool true)], args := [d1, d2, d3] }
  | _ => none }
def fnExactPartBootRow : OpenClaim := { program := "ytgllenfbilnneaagreat", sum := "bafe7c0123265b51a90a58b1222002b75fa7ab49f8349c9f8bbf55bceafd7a08", func := "loop.example/g00076/laws.FnExactPartBoot", spec := "fnExactPartBoot", unfollowed := true, recurses := true, apart := false }
def FnExactPartBootSaid : Prop := fnExactPartBootRow.holds Tryz.pinned (OpenSpec.ofChange fnExactPartBootSpec)

/-- ITS FALSE NEIGHBOUR: 'it returns false'. Refute it at one input. -/
def fnExactPartBootWrong : ChangeSpec := { name := "fnExactPartBoot", fn := fun _ => fun
  | [d1, d2, d3] => { results := [.lit (.bool false)], args := [d1, d2, d3] }
  | _ => none }
def FnExactPartBootWrongFalsely : Prop := fnExactPartBootRow.holds Tryz.pinned (OpenSpec.ofChange fnExactPartBootWrong)

/-- 'laws.FnExactPartInput': WHATEVER THE INPUT: true; the input reads as it did. -/
def fnExactPartInputSpec : ChangeSpec := { name := "fnExactPartInput", fn := fun _ => fun
  | [d1, d2, d3, d4, d5] => { results := [.lit (.bool true)], args := [d1, d2, d3, d4, d5] }
  | _ => none }
def fnExactPartInputRow : OpenClaim := { program := "ytgllenfbilnneaagreat", sum := "bafe7c0123265b51a90a58b1222002b75fa7ab49f8349c9f8bbf55bceafd7a08", func := "loop.example/g00076/laws.FnExactPartInput", spec := "fnExactPartInput", unfollowed := true, recurses := true, apart := false }
def FnExactPartInputSaid : Prop := fnExactPartInputRow.holds Tryz.pinned (OpenSpec.ofChange fnExactPartInputSpec)

/-- ITS FALSE NEIGHBOUR: 'it returns false'. Refute it at one input. -/
def fnExactPartInputWrong : ChangeSpec := { name := "fnExactPartInput", fn := fun _ => fun
  | [d1, d2, d3, d4, d5] => { results := [.lit (.bool false)], args := [d1, d2, d3, d4, d5] }
  | _ => none }
def FnExactPartInputWrongFalsely : Prop := fnExactPartInputRow.holds Tryz.pinned (OpenSpec.ofChange fnExactPartInputWrong)

/-- 'laws.FnExactPartRestart': WHATEVER THE INPUT: true; the input reads as it did. -/
def fnExactPartRestartSpec : ChangeSpec := { name := "fnExactPartRestart", fn := fun _ => fun
  | [d1, d2, d3] => { results := [.lit (.bool true)], args := [d1, d2, d3] }
  | _ => none }
def fnExactPartRestartRow : OpenClaim := { program := "ytgllenfbilnneaagreat", sum := "bafe7c0123265b51a90a58b1222002b75fa7ab49f8349c9f8bbf55bceafd7a08", func := "loop.example/g00076/laws.FnExactPartRestart", spec := "fnExactPartRestart", unfollowed := true, recurses := true, apart := false }
def FnExactPartRestartSaid : Prop := fnExactPartRestartRow.holds Tryz.pinned (OpenSpec.ofChange fnExactPartRestartSpec)

/-- ITS FALSE NEIGHBOUR: 'it returns false'. Refute it at one input. -/
def fnExactPartRestartWrong : ChangeSpec := { name := "fnExactPartRestart", fn := fun _ => fun
  | [d1, d2, d3] => { results := [.lit (.bool false)], args := [d1, d2, d3] }
  | _ => none }
def FnExactPartRestartWrongFalsely : Prop := fnExactPartRestartRow.holds Tryz.pinned (OpenSpec.ofChange fnExactPartRestartWrong)

/-- 'laws.FnExactPartSlot': WHATEVER THE INPUT: true; the input reads as it did. -/
def fnExactPartSlotSpec : ChangeSpec := { name := "fnExactPartSlot", fn := fun _ => fun
  | [d1, d2, d3, d4] => { results := [.lit (.bool true)], args := [d1, d2, d3, d4] }
  | _ => none }
def fnExactPartSlotRow : OpenClaim := { program := "ytgllenfbilnneaagreat", sum := "bafe7c0123265b51a90a58b1222002b75fa7ab49f8349c9f8bbf55bceafd7a08", func := "loop.example/g00076/laws.FnExactPartSlot", spec := "fnExactPartSlot", unfollowed := true, recurses := true, apart := false }
def FnExactPartSlotSaid : Prop := fnExactPartSlotRow.holds Tryz.pinned (OpenSpec.ofChange fnExactPartSlotSpec)

/-- ITS FALSE NEIGHBOUR: 'it returns false'. Refute it at one input. -/
def fnExactPartSlotWrong : ChangeSpec := { name := "fnExactPartSlot", fn := fun _ => fun
  | [d1, d2, d3, d4] => { results := [.lit (.bool false)], args := [d1, d2, d3, d4] }
  | _ => none }
def FnExactPartSlotWrongFalsely : Prop := fnExactPartSlotRow.holds Tryz.pinned (OpenSpec.ofChange fnExactPartSlotWrong)

/-- 'laws.FnInputs': WHATEVER THE INPUT: true; the input reads as it did. -/
def fnInputsSpec : ChangeSpec := { name := "fnInputs", fn := fun _ => fun
  | [d] => { results := [.lit (.bool true)], args := [d] }
  | _ => none }
def fnInputsRow : OpenClaim := { program := "ytgllenfbilnneaagreat", sum := "bafe7c0123265b51a90a58b1222002b75fa7ab49f8349c9f8bbf55bceafd7a08", func := "loop.example/g00076/laws.FnInputs", spec := "fnInputs", unfollowed := true, recurses := true, apart := false }
def FnInputsSaid : Prop := fnInputsRow.holds Tryz.pinned (OpenSpec.ofChange fnInputsSpec)

/-- ITS FALSE NEIGHBOUR: 'it returns false'. Refute it at one input. -/
def fnInputsWrong : ChangeSpec := { name := "fnInputs", fn := fun _ => fun
  | [d] => { results := [.lit (.bool false)], args := [d] }
  | _ => none }
def FnInputsWrongFalsely : Prop := fnInputsRow.holds Tryz.pinned (OpenSpec.ofChange fnInputsWrong)

/-- 'laws.FnForgets': WHATEVER THE INPUT: true; the input reads as it did. -/
def fnForgetsSpec : ChangeSpec := { name := "fnForgets", fn := fun _ => fun
  | [d] => { results := [.lit (.bool true)], args := [d] }
  | _ => none }
def fnForgetsRow : OpenClaim := { program := "ytgllenfbilnneaagreat", sum := "bafe7c0123265b51a90a58b1222002b75fa7ab49f8349c9f8bbf55bceafd7a08", func := "loop.example/g00076/laws.FnForgets", spec := "fnForgets", unfollowed := true, recurses := true, apart := false }
def FnForgetsSaid : Prop := fnForgetsRow.holds Tryz.pinned (OpenSpec.ofChange fnForgetsSpec)

/-- ITS FALSE NEIGHBOUR: 'it returns false'. Refute it at one input. -/
def fnForgetsWrong : ChangeSpec := { name := "fnForgets", fn := fun _ => fun
  | [d] => { results := [.lit (.bool false)], args := [d] }
  | _ => none }
def FnForgetsWrongFalsely : Prop := fnForgetsRow.holds Tryz.pinned (OpenSpec.ofChange fnForgetsWrong)

/- THE SECOND FORM. 'bulk': how many values and letters a reading holds, each counted each time it is reached (what is shared counts as often as it is met; a slice's spare places count too). A statement '..UptoSaid' is the law's where the arguments, and the package variables that the reading takes, are together of bulk at most 1048576: NARROWER than '..Said'. Prove '..Said' where nothing that the law and all that it calls make is longer than what came in: it says more and counts as full. Else prove '..UptoSaid'. A law counts once. -/
mutual
def uptoBulk {H : Type} : DataW H → Nat
  | .lit (.string bytes) => bytes.length + 1
  | .lit _ => 1
  | .nil => 1
  | .ptr d => uptoBulk d + 1
  | .slice elems spare => uptoBulkAll elems + uptoBulkAll spare + 1
  | .agg parts => uptoBulkAll parts + 1
  | .iface _ d => uptoBulk d + 1
  | .map entries => uptoBulkEntries entries + 1
  | .held _ => 1
def uptoBulkAll {H : Type} : List (DataW H) → Nat
  | [] => 0
  | d :: r => uptoBulk d + uptoBulkAll r
def uptoBulkEntries {H : Type} : List (Lit × DataW H) → Nat
  | [] => 0
  | x :: r => uptoBulkEntry x + uptoBulkEntries r
def uptoBulkEntry {H : Type} : Lit × DataW H → Nat
  | (.string bytes, d) => bytes.length + uptoBulk d + 1
  | (_, d) => uptoBulk d + 1
 end
def uptoSmall : (H : Type) → List (DataW H) → Bool := fun _ ds => decide (uptoBulkAll ds ≤ 1048576)
def OpenSpec.upto (s : _root_.Go.ChangeSpec) : _root_.Go.OpenSpec := { _root_.Go.OpenSpec.ofChange s with cond := some uptoSmall }

/-- 'laws.FnExactPartBoot', WHERE WHAT IT READS IS OF BULK AT MOST 1048576: true; the input reads as it did. -/
def fnExactPartBootUptoRow : OpenClaim := { program := "ytgllenfbilnneaagreat", sum := "bafe7c0123265b51a90a58b1222002b75fa7ab49f8349c9f8bbf55bceafd7a08", func := "loop.example/g00076/laws.FnExactPartBoot", spec := "fnExactPartBoot", unfollowed := true, recurses := true, apart := false, narrowed := true }
def FnExactPartBootUptoSaid : Prop := fnExactPartBootUptoRow.holds Tryz.pinned (OpenSpec.upto fnExactPartBootSpec)

/-- 'laws.FnExactPartInput', WHERE WHAT IT READS IS OF BULK AT MOST 1048576: true; the input reads as it did. -/
def fnExactPartInputUptoRow : OpenClaim := { program := "ytgllenfbilnneaagreat", sum := "bafe7c0123265b51a90a58b1222002b75fa7ab49f8349c9f8bbf55bceafd7a08", func := "loop.example/g00076/laws.FnExactPartInput", spec := "fnExactPartInput", unfollowed := true, recurses := true, apart := false, narrowed := true }
def FnExactPartInputUptoSaid : Prop := fnExactPartInputUptoRow.holds Tryz.pinned (OpenSpec.upto fnExactPartInputSpec)

/-- 'laws.FnExactPartRestart', WHERE WHAT IT READS IS OF BULK AT MOST 1048576: true; the input reads as it did. -/
def fnExactPartRestartUptoRow : OpenClaim := { program := "ytgllenfbilnneaagreat", sum := "bafe7c0123265b51a90a58b1222002b75fa7ab49f8349c9f8bbf55bceafd7a08", func := "loop.example/g00076/laws.FnExactPartRestart", spec := "fnExactPartRestart", unfollowed := true, recurses := true, apart := false, narrowed := true }
def FnExactPartRestartUptoSaid : Prop := fnExactPartRestartUptoRow.holds Tryz.pinned (OpenSpec.upto fnExactPartRestartSpec)

/-- 'laws.FnExactPartSlot', WHERE WHAT IT READS IS OF BULK AT MOST 1048576: true; the input reads as it did. -/
def fnExactPartSlotUptoRow : OpenClaim := { program := "ytgllenfbilnneaagreat", sum := "bafe7c0123265b51a90a58b1222002b75fa7ab49f8349c9f8bbf55bceafd7a08", func := "loop.example/g00076/laws.FnExactPartSlot", spec := "fnExactPartSlot", unfollowed := true, recurses := true, apart := false, narrowed := true }
def FnExactPartSlotUptoSaid : Prop := fnExactPartSlotUptoRow.holds Tryz.pinned (OpenSpec.upto fnExactPartSlotSpec)

/-- 'laws.FnInputs', WHERE WHAT IT READS IS OF BULK AT MOST 1048576: true; the input reads as it did. -/
def fnInputsUptoRow : OpenClaim := { program := "ytgllenfbilnneaagreat", sum := "bafe7c0123265b51a90a58b1222002b75fa7ab49f8349c9f8bbf55bceafd7a08", func := "loop.example/g00076/laws.FnInputs", spec := "fnInputs", unfollowed := true, recurses := true, apart := false, narrowed := true }
def FnInputsUptoSaid : Prop := fnInputsUptoRow.holds Tryz.pinned (OpenSpec.upto fnInputsSpec)

/-- 'laws.FnForgets', WHERE WHAT IT READS IS OF BULK AT MOST 1048576: true; the input reads as it did. -/
def fnForgetsUptoRow : OpenClaim := { program := "ytgllenfbilnneaagreat", sum := "bafe7c0123265b51a90a58b1222002b75fa7ab49f8349c9f8bbf55bceafd7a08", func := "loop.example/g00076/laws.FnForgets", spec := "fnForgets", unfollowed := true, recurses := true, apart := false, narrowed := true }
def FnForgetsUptoSaid : Prop := fnForgetsUptoRow.holds Tryz.pinned (OpenSpec.upto fnForgetsSpec)

end Rows
end Go.Proofs.YtgllenfbilnneaaGreat
