/-
  No cell of these rows narrows 'for every input' (looked for: loops, veiled, ifaces, maps, wideKeys, modest, calm, conditions, laid).
  DERIVED. THE GIVEN ROWS OF THIS SEAT. 10 by the template 'for every input the law returns true; each argument reads behind the call as it read before'; 0 by the template 'total and deterministic' (their statements: YtnjlpdagdedbaaaTotals.lean).
  GIVEN WITH THE SEED: the statements are not yours to turn. If you find one false, say at which input.
  Laid BY PROGRAM, IN A SANDBOX (cutbox-rows.mjs): the forced cells as the released guide's own fill.sh prints them over the translation 3db34bc932ec7340… (all of the seat's roots in one cut). By AI agents, Wed Nov 11 2026. No macro, syntax, notation, axiom, sorry.
-/
import Derived.Test.YtnjlpdagdedbaaaChecked
import GoSem.Claim
import GoSem.ClaimJoined
import GoSem.ClaimMapViews
import Derived.JoinedTies
import Derived.KernelRfl
namespace Go.Proofs.Ytnjlpdagdedbaaa
/- THE CELL 'sum', in the pinned program and in every row, IS THE sha256 OF THE DUMP (.gsa) THAT YtnjlpdagdedbaaaProg.lean LOADS. Nothing in Lean hashes anything: it is a label: what it is worth is what the hold of that sum in a sandbox is worth. -/
noncomputable def Try.pinned : Pinned := { name := "ytnjlpdagdedbaaa", sum := "3db34bc932ec734090b4a86de52ef13eebc40884d3d8f1c6a87dc2512920b3a6", checked := Try.checked }
namespace Rows
def none {H : Type} : Left H := { results := [], args := [] }

/-- 'laws.FnExactPermText': WHATEVER THE INPUT: true; the input reads as it did. -/
def fnExactPermTextSpec : ChangeSpec := { name := "fnExactPermText", fn := fun _ => fun
  | [d] => { results := [.lit (.bool true)], args := [d] }
  | _ => none }
def fnExactPermTextRow : OpenClaim := { program := "ytnjlpdagdedbaaa", sum := "3db34bc932ec734090b4a86de52ef13eebc40884d3d8f1c6a87dc2512920b3a6", func := "loop.example/g00076/laws.FnExactPermText", spec := "fnExactPermText", apart := false }
def FnExactPermTextSaid : Prop := fnExactPermTextRow.holds Try.pinned (OpenSpec.ofChange fnExactPermTextSpec)

/-- ITS FALSE NEIGHBOUR: 'it returns false'. Refute it at one input. -/
def fnExactPermTextWrong : ChangeSpec := { name := "fnExactPermText", fn := fun _ => fun
  | [d] => { results := [.lit (.bool false)], args := [d] }
  | _ => none }
def FnExactPermTextWrongFalsely : Prop := fnExactPermTextRow.holds Try.pinned (OpenSpec.ofChange fnExactPermTextWrong)

/-- 'laws.FnExactPermOf': WHATEVER THE INPUT: true; the input reads as it did. -/
def fnExactPermOfSpec : ChangeSpec := { name := "fnExactPermOf", fn := fun _ => fun
  | [d] => { results := [.lit (.bool true)], args := [d] }
  | _ => none }
def fnExactPermOfRow : OpenClaim := { program := "ytnjlpdagdedbaaa", sum := "3db34bc932ec734090b4a86de52ef13eebc40884d3d8f1c6a87dc2512920b3a6", func := "loop.example/g00076/laws.FnExactPermOf", spec := "fnExactPermOf", apart := false }
def FnExactPermOfSaid : Prop := fnExactPermOfRow.holds Try.pinned (OpenSpec.ofChange fnExactPermOfSpec)

/-- ITS FALSE NEIGHBOUR: 'it returns false'. Refute it at one input. -/
def fnExactPermOfWrong : ChangeSpec := { name := "fnExactPermOf", fn := fun _ => fun
  | [d] => { results := [.lit (.bool false)], args := [d] }
  | _ => none }
def FnExactPermOfWrongFalsely : Prop := fnExactPermOfRow.holds Try.pinned (OpenSpec.ofChange fnExactPermOfWrong)

/-- 'laws.FnExactDevInput': WHATEVER THE INPUT: true; the input reads as it did. -/
def fnExactDevInputSpec : ChangeSpec := { name := "fnExactDevInput", fn := fun _ => fun
  | [d1, d2] => { results := [.lit (.bool true)], args := [d1, d2] }
  | _ => none }
def fnExactDevInputRow : OpenClaim := { program := "ytnjlpdagdedbaaa", sum := "3db34bc932ec734090b4a86de52ef13eebc40884d3d8f1c6a87dc2512920b3a6", func := "loop.example/g00076/laws.FnExactDevInput", spec := "fnExactDevInput", apart := false }
def FnExactDevInputSaid : Prop := fnExactDevInputRow.holds Try.pinned (OpenSpec.ofChange fnExactDevInputSpec)

/-- ITS FALSE NEIGHBOUR: 'it returns false'. Refute it at one input. -/
def fnExactDevInputWrong : ChangeSpec := { name := "fnExactDevInput", fn := fun _ => fun
  | [d1, d2] => { results := [.lit (.bool false)], args := [d1, d2] }
  | _ => none }
def FnExactDevInputWrongFalsely : Prop := fnExactDevInputRow.holds Try.pinned (OpenSpec.ofChange fnExactDevInputWrong)

/-- 'laws.FnExactDevRead': WHATEVER THE INPUT: true; the input reads as it did. -/
def fnExactDevReadSpec : ChangeSpec := { name := "fnExactDevRead", fn := fun _ => fun
  | [d] => { results := [.lit (.bool true)], args := [d] }
  | _ => none }
def fnExactDevReadRow : OpenClaim := { program := "ytnjlpdagdedbaaa", sum := "3db34bc932ec734090b4a86de52ef13eebc40884d3d8f1c6a87dc2512920b3a6", func := "loop.example/g00076/laws.FnExactDevRead", spec := "fnExactDevRead", apart := false }
def FnExactDevReadSaid : Prop := fnExactDevReadRow.holds Try.pinned (OpenSpec.ofChange fnExactDevReadSpec)

/-- ITS FALSE NEIGHBOUR: 'it returns false'. Refute it at one input. -/
def fnExactDevReadWrong : ChangeSpec := { name := "fnExactDevRead", fn := fun _ => fun
  | [d] => { results := [.lit (.bool false)], args := [d] }
  | _ => none }
def FnExactDevReadWrongFalsely : Prop := fnExactDevReadRow.holds Try.pinned (OpenSpec.ofChange fnExactDevReadWrong)

/-- 'laws.FnExactDevOpen': WHATEVER THE INPUT: true; the input reads as it did. -/
def fnExactDevOpenSpec : ChangeSpec := { name := "fnExactDevOpen", fn := fun _ => fun
  | [d] => { results := [.lit (.bool true)], args := [d] }
  | _ => none }
def fnExactDevOpenRow : OpenClaim := { program := "ytnjlpdagdedbaaa", sum := "3db34bc932ec734090b4a86de52ef13eebc40884d3d8f1c6a87dc2512920b3a6", func := "loop.example/g00076/laws.FnExactDevOpen", spec := "fnExactDevOpen", apart := false }
def FnExactDevOpenSaid : Prop := fnExactDevOpenRow.holds Try.pinned (OpenSpec.ofChange fnExactDevOpenSpec)

/-- ITS FALSE NEIGHBOUR: 'it returns false'. Refute it at one input. -/
def fnExactDevOpenWrong : ChangeSpec := { name := "fnExactDevOpen", fn := fun _ => fun
  | [d] => { results := [.lit (.bool false)], args := [d] }
  | _ => none }
def FnExactDevOpenWrongFalsely : Prop := fnExactDevOpenRow.holds Try.pinned (OpenSpec.ofChange fnExactDevOpenWrong)

/-- 'laws.FnExactDevPlay': WHATEVER THE INPUT: true; the input reads as it did. -/
def fnExactDevPlaySpec : ChangeSpec := { name := "fnExactDevPlay", fn := fun _ => fun
  | [d] => { results := [.lit (.bool true)], args := [d] }
  | _ => none }
def fnExactDevPlayRow : OpenClaim := { program := "ytnjlpdagdedbaaa", sum := "3db34bc932ec734090b4a86de52ef13eebc40884d3d8f1c6a87dc2512920b3a6", func := "loop.example/g00076/laws.FnExactDevPlay", spec := "fnExactDevPlay", unfollowed := true, recurses := true, apart := false }
def FnExactDevPlaySaid : Prop := fnExactDevPlayRow.holds Try.pinned (OpenSpec.ofChange fnExactDevPlaySpec)

/-- ITS FALSE NEIGHBOUR: 'it returns false'. Refute it at one input. -/
def fnExactDevPlayWrong : ChangeSpec := { name := "fnExactDevPlay", fn := fun _ => fun
  | [d] => { results := [.lit (.bool false)], args := [d] }
  | _ => none }
def FnExactDevPlayWrongFalsely : Prop := fnExactDevPlayRow.holds Try.pinned (OpenSpec.ofChange fnExactDevPlayWrong)

/-- 'laws.FnDevice': WHATEVER THE INPUT: true; the input reads as it did. -/
def fnDeviceSpec : ChangeSpec := { name := "fnDevice", fn := fun _ => fun
  | [d] => { results := [.lit (.bool true)], args := [d] }
  | _ => none }
def fnDeviceRow : OpenClaim := { program := "ytnjlpdagdedbaaa", sum := "3db34bc932ec734090b4a86de52ef13eebc40884d3d8f1c6a87dc2512920b3a6", func := "loop.example/g00076/laws.FnDevice", spec := "fnDevice", unfollowed := true, recurses := true, apart := false }
def FnDeviceSaid : Prop := fnDeviceRow.holds Try.pinned (OpenSpec.ofChange fnDeviceSpec)

/-- ITS FALSE NEIGHBOUR: 'it returns false'. Refute it at one input. -/
def fnDeviceWrong : ChangeSpec := { name := "fnDevice", fn := fun _ => fun
  | [d] => { results := [.lit (.bool false)], args := [d] }
  | _ => none }
def FnDeviceWrongFalsely : Prop := fnDeviceRow.holds Try.pinned (OpenSpec.ofChange fnDeviceWrong)

/-- 'laws.FnShares': WHATEVER THE INPUT: true; the input reads as it did. -/
def fnSharesSpec : ChangeSpec := { name := "fnShares", fn := fun _ => fun
  | [d] => { results := [.lit (.bool true)], args := [d] }
  | _ => none }
def fnSharesRow : OpenClaim := { program := "ytnjlpdagdedbaaa", sum := "3db34bc932ec734090b4a86de52ef13eebc40884d3d8f1c6a87dc2512920b3a6", func := "loop.example/g00076/laws.FnShares", spec := "fnShares", unfollowed := true, recurses := true, apart := false }
def FnSharesSaid : Prop := fnSharesRow.holds Try.pinned (OpenSpec.ofChange fnSharesSpec)

/-- ITS FALSE NEIGHBOUR: 'it returns false'. Refute it at one input. -/
def fnSharesWrong : ChangeSpec := { name := "fnShares", fn := fun _ => fun
  | [d] => { results := [.lit (.bool false)], args := [d] }
  | _ => none }
def FnSharesWrongFalsely : Prop := fnSharesRow.holds Try.pinned (OpenSpec.ofChange fnSharesWrong)

/-- 'laws.FnCyclic': WHATEVER THE INPUT: true; the input reads as it did. -/
def fnCyclicSpec : ChangeSpec := { name := "fnCyclic", fn := fun _ => fun
  | [d] => { results := [.lit (.bool true)], args := [d] }
  | _ => none }
def fnCyclicRow : OpenClaim := { program := "ytnjlpdagdedbaaa", sum := "3db34bc932ec734090b4a86de52ef13eebc40884d3d8f1c6a87dc2512920b3a6", func := "loop.example/g00076/laws.FnCyclic", spec := "fnCyclic", unfollowed := true, recurses := true, apart := false }
def FnCyclicSaid : Prop := fnCyclicRow.holds Try.pinned (OpenSpec.ofChange fnCyclicSpec)

/-- ITS FALSE NEIGHBOUR: 'it returns false'. Refute it at one input. -/
def fnCyclicWrong : ChangeSpec := { name := "fnCyclic", fn := fun _ => fun
  | [d] => { results := [.lit (.bool false)], args := [d] }
  | _ => none }
def FnCyclicWrongFalsely : Prop := fnCyclicRow.holds Try.pinned (OpenSpec.ofChange fnCyclicWrong)

/-- 'laws.FnPadded': WHATEVER THE INPUT: true; the input reads as it did. -/
def fnPaddedSpec : ChangeSpec := { name := "fnPadded", fn := fun _ => fun
  | [d] => { results := [.lit (.bool true)], args := [d] }
  | _ => none }
def fnPaddedRow : OpenClaim := { program := "ytnjlpdagdedbaaa", sum := "3db34bc932ec734090b4a86de52ef13eebc40884d3d8f1c6a87dc2512920b3a6", func := "loop.example/g00076/laws.FnPadded", spec := "fnPadded", unfollowed := true, recurses := true, apart := false }
def FnPaddedSaid : Prop := fnPaddedRow.holds Try.pinned (OpenSpec.ofChange fnPaddedSpec)

/-- ITS FALSE NEIGHBOUR: 'it returns false'. Refute it at one input. -/
def fnPaddedWrong : ChangeSpec := { name := "fnPadded", fn := fun _ => fun
  | [d] => { results := [.lit (.bool false)], args := [d] }
  | _ => none }
def FnPaddedWrongFalsely : Prop := fnPaddedRow.holds Try.pinned (OpenSpec.ofChange fnPaddedWrong)

/- THE SECOND FORM. 'bulk': how many values and letters a reading holds, each counted each time it is reached (what is shared counts as often as it is met; a slice's spare places count too). A statement '..UptoSaid' is the law's where the arguments, and the package variables that the reading takes, are together of bulk at most 1048576: NARROWER than '..Said'. Prove '..Said' where nothing that the law and all that it calls make is longer than what came in: it says more and counts as full. Else prove '..UptoSaid'. A law counts once. -/
mutual
def uptoBulk {H : Type} : DataW H → Nat
  | .lit (.string bytes) => bytes.length + 1
  | .lit _ => 1
  | .nil => 1
  | .ptr d => uptoBulk d + 1
  | .slice elems spare => uptoBulkAll elems + uptoBulkAll spare + 1
  | .agg parts => uptoBulkAll parts + 1
  | .iface _ d => uptoBulk d + 1
  | .map entries => uptoBulkEntries entries + 1
  | .held _ => 1
def uptoBulkAll {H : Type} : List (DataW H) → Nat
  | [] => 0
  | d :: r => uptoBulk d + uptoBulkAll r
def uptoBulkEntries {H : Type} : List (Lit × DataW H) → Nat
  | [] => 0
  | x :: r => uptoBulkEntry x + uptoBulkEntries r
def uptoBulkEntry {H : Type} : Lit × DataW H → Nat
  | (.string bytes, d) => bytes.length + uptoBulk d + 1
  | (_, d) => uptoBulk d + 1
 end
def uptoSmall : (H : Type) → List (DataW H) → Bool := fun _ ds => decide (uptoBulkAll ds ≤ 1048576)
def OpenSpec.upto (s : _root_.Go.ChangeSpec) : _root_.Go.OpenSpec := { _root_.Go.OpenSpec.ofChange s with cond := some uptoSmall }

/-- 'laws.FnExactPermText', WHERE WHAT IT READS IS OF BULK AT MOST 1048576: true; the input reads as it did. -/
def fnExactPermTextUptoRow : OpenClaim := { program := "ytnjlpdagdedbaaa", sum := "3db34bc932ec734090b4a86de52ef13eebc40884d3d8f1c6a87dc2512920b3a6", func := "loop.example/g00076/laws.FnExactPermText", spec := "fnExactPermText", apart := false, narrowed := true }
def FnExactPermTextUptoSaid : Prop := fnExactPermTextUptoRow.holds Try.pinned (OpenSpec.upto fnExactPermTextSpec)

/-- 'laws.FnExactPermOf', WHERE WHAT IT READS IS OF BULK AT MOST 1048576: true; the input reads as it did. -/
def fnExactPermOfUptoRow : OpenClaim := { program := "ytnjlpdagdedbaaa", sum := "3db34bc932ec734090b4a86de52ef13eebc40884d3d8f1c6a87dc2512920b3a6", func := "loop.example/g00076/laws.FnExactPermOf", spec := "fnExactPermOf", apart := false, narrowed := true }
def FnExactPermOfUptoSaid : Prop := fnExactPermOfUptoRow.holds Try.pinned (OpenSpec.upto fnExactPermOfSpec)

/-- 'laws.FnExactDevInput', WHERE WHAT IT READS IS OF BULK AT MOST 1048576: true; the input reads as it did. -/
def fnExactDevInputUptoRow : OpenClaim := { program := "ytnjlpdagdedbaaa", sum := "3db34bc932ec734090b4a86de52ef13eebc40884d3d8f1c6a87dc2512920b3a6", func := "loop.example/g00076/laws.FnExactDevInput", spec := "fnExactDevInput", apart := false, narrowed := true }
def FnExactDevInputUptoSaid : Prop := fnExactDevInputUptoRow.holds Try.pinned (OpenSpec.upto fnExactDevInputSpec)

/-- 'laws.FnExactDevRead', WHERE WHAT IT READS IS OF BULK AT MOST 1048576: true; the input reads as it did. -/
def fnExactDevReadUptoRow : OpenClaim := { program := "ytnjlpdagdedbaaa", sum := "3db34bc932ec734090b4a86de52ef13eebc40884d3d8f1c6a87dc2512920b3a6", func := "loop.example/g00076/laws.FnExactDevRead", spec := "fnExactDevRead", apart := false, narrowed := true }
def FnExactDevReadUptoSaid : Prop := fnExactDevReadUptoRow.holds Try.pinned (OpenSpec.upto fnExactDevReadSpec)

/-- 'laws.FnExactDevOpen', WHERE WHAT IT READS IS OF BULK AT MOST 1048576: true; the input reads as it did. -/
def fnExactDevOpenUptoRow : OpenClaim := { program := "ytnjlpdagdedbaaa", sum := "3db34bc932ec734090b4a86de52ef13eebc40884d3d8f1c6a87dc2512920b3a6", func := "loop.example/g00076/laws.FnExactDevOpen", spec := "fnExactDevOpen", apart := false, narrowed := true }
def FnExactDevOpenUptoSaid : Prop := fnExactDevOpenUptoRow.holds Try.pinned (OpenSpec.upto fnExactDevOpenSpec)

/-- 'laws.FnExactDevPlay', WHERE WHAT IT READS IS OF BULK AT MOST 1048576: true; the input reads as it did. -/
def fnExactDevPlayUptoRow : OpenClaim := { program := "ytnjlpdagdedbaaa", sum := "3db34bc932ec734090b4a86de52ef13eebc40884d3d8f1c6a87dc2512920b3a6", func := "loop.example/g00076/laws.FnExactDevPlay", spec := "fnExactDevPlay", unfollowed := true, recurses := true, apart := false, narrowed := true }
def FnExactDevPlayUptoSaid : Prop := fnExactDevPlayUptoRow.holds Try.pinned (OpenSpec.upto fnExactDevPlaySpec)

/-- 'laws.FnDevice', WHERE WHAT IT READS IS OF BULK AT MOST 1048576: true; the input reads as it did. -/
def fnDeviceUptoRow : OpenClaim := { program := "ytnjlpdagdedbaaa", sum := "3db34bc932ec734090b4a86de52ef13eebc40884d3d8f1c6a87dc2512920b3a6", func := "loop.example/g00076/laws.FnDevice", spec := "fnDevice", unfollowed := true, recurses := true, apart := false, narrowed := true }
def FnDeviceUptoSaid : Prop := fnDeviceUptoRow.holds Try.pinned (OpenSpec.upto fnDeviceSpec)

/-- 'laws.FnShares', WHERE WHAT IT READS IS OF BULK AT MOST 1048576: true; the input reads as it did. -/
def fnSharesUptoRow : OpenClaim := { program := "ytnjlpdagdedbaaa", sum := "3db34bc932ec734090b4a86de52ef13eebc40884d3d8f1c6a87dc2512920b3a6", func := "loop.example/g00076/laws.FnShares", spec := "fnShares", unfollowed := true, recurses := true, apart := false, narrowed := true }
def FnSharesUptoSaid : Prop := fnSharesUptoRow.holds Try.pinned (OpenSpec.upto fnSharesSpec)

/-- 'laws.FnCyclic', WHERE WHAT IT READS IS OF BULK AT MOST 1048576: true; the input reads as it did. -/
def fnCyclicUptoRow : OpenClaim := { program := "ytnjlpdagdedbaaa", sum := "3db34bc932ec734090b4a86de52ef13eebc40884d3d8f1c6a87dc2512920b3a6", func := "loop.example/g00076/laws.FnCyclic", spec := "fnCyclic", unfollowed := true, recurses := true, apart := false, narrowed := true }
def FnCyclicUptoSaid : Prop := fnCyclicUptoRow.holds Try.pinned (OpenSpec.upto fnCyclicSpec)

/-- 'laws.FnPadded', WHERE WHAT IT READS IS OF BULK AT MOST 1048576: true; the input reads as it did. -/
def fnPaddedUptoRow : OpenClaim := { program := "ytnjlpdagdedbaaa", sum := "3db34bc932ec734090b4a86de52ef13eebc40884d3d8f1c6a87dc2512920b3a6", func := "loop.example/g00076/laws.FnPadded", spec := "fnPadded", unfollowed := true, recurses := true, apart := false, narrowed := true }
def FnPaddedUptoSaid : Prop := fnPaddedUptoRow.holds Try.pinned (OpenSpec.upto fnPaddedSpec)

end Rows
end Go.Proofs.Ytnjlpdagdedbaaa
