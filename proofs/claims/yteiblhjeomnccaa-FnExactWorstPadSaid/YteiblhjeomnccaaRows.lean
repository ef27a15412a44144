/-
  No cell of these rows narrows 'for every input' (looked for: loops, veiled, ifaces, maps, wideKeys, modest, calm, conditions, laid).
  DERIVED. THE GIVEN ROWS OF THIS SEAT. 12 by the template 'for every input the law returns true; each argument reads behind the call as it read before'; 0 by the template 'total and deterministic' (their statements: YteiblhjeomnccaaTotals.lean).
  GIVEN WITH THE SEED: the statements are not yours to turn. If you find one false, say at which input.
  Laid BY PROGRAM, IN A SANDBOX (cutbox-rows.mjs): the forced cells as the released guide's own fill.sh prints them over the translation 075ecd52c4ac9bc5… (all of the seat's roots in one cut). By AI agents, Wed Nov 11 2026. No macro, syntax, notation, axiom, sorry.
-/
import Derived.Test.YteiblhjeomnccaaChecked
import GoSem.Claim
import GoSem.ClaimJoined
import GoSem.ClaimMapViews
import Derived.JoinedTies
import Derived.KernelRfl
namespace Go.Proofs.Yteiblhjeomnccaa
/- THE CELL 'sum', in the pinned program and in every row, IS THE sha256 OF THE DUMP (.gsa) THAT YteiblhjeomnccaaProg.lean LOADS. Nothing in Lean hashes anything: it is a label: what it is worth is what the hold of that sum in a sandbox is worth. -/
noncomputable def Try.pinned : Pinned := { name := "yteiblhjeomnccaa", sum := "075ecd52c4ac9bc57020835277c54c41dfc7cd2d417f481944053e9e17801a41", checked := Try.checked }
namespace Rows
def none {H : Type} : Left H := { results := [], args := [] }

/-- 'laws.FnExactWorkSum': WHATEVER THE INPUT: true; the input reads as it did. -/
def fnExactWorkSumSpec : ChangeSpec := { name := "fnExactWorkSum", fn := fun _ => fun
  | [d] => { results := [.lit (.bool true)], args := [d] }
  | _ => none }
def fnExactWorkSumRow : OpenClaim := { program := "yteiblhjeomnccaa", sum := "075ecd52c4ac9bc57020835277c54c41dfc7cd2d417f481944053e9e17801a41", func := "loop.example/g00076/laws.FnExactWorkSum", spec := "fnExactWorkSum", apart := false }
def FnExactWorkSumSaid : Prop := fnExactWorkSumRow.holds Try.pinned (OpenSpec.ofChange fnExactWorkSumSpec)

/-- ITS FALSE NEIGHBOUR: 'it returns false'. Refute it at one input. -/
def fnExactWorkSumWrong : ChangeSpec := { name := "fnExactWorkSum", fn := fun _ => fun
  | [d] => { results := [.lit (.bool false)], args := [d] }
  | _ => none }
def FnExactWorkSumWrongFalsely : Prop := fnExactWorkSumRow.holds Try.pinned (OpenSpec.ofChange fnExactWorkSumWrong)

/-- 'laws.FnExactNameOk': WHATEVER THE INPUT: true; the input reads as it did. -/
def fnExactNameOkSpec : ChangeSpec := { name := "fnExactNameOk", fn := fun _ => fun
  | [d] => { results := [.lit (.bool true)], args := [d] }
  | _ => none }
def fnExactNameOkRow : OpenClaim := { program := "yteiblhjeomnccaa", sum := "075ecd52c4ac9bc57020835277c54c41dfc7cd2d417f481944053e9e17801a41", func := "loop.example/g00076/laws.FnExactNameOk", spec := "fnExactNameOk", apart := false }
def FnExactNameOkSaid : Prop := fnExactNameOkRow.holds Try.pinned (OpenSpec.ofChange fnExactNameOkSpec)

/-- ITS FALSE NEIGHBOUR: 'it returns false'. Refute it at one input. -/
def fnExactNameOkWrong : ChangeSpec := { name := "fnExactNameOk", fn := fun _ => fun
  | [d] => { results := [.lit (.bool false)], args := [d] }
  | _ => none }
def FnExactNameOkWrongFalsely : Prop := fnExactNameOkRow.holds Try.pinned (OpenSpec.ofChange fnExactNameOkWrong)

/-- 'laws.FnExactPermText': WHATEVER THE INPUT: true; the input reads as it did. -/
def fnExactPermTextSpec : ChangeSpec := { name := "fnExactPermText", fn := fun _ => fun
  | [d] => { results := [.lit (.bool true)], args := [d] }
  | _ => none }
def fnExactPermTextRow : OpenClaim := { program := "yteiblhjeomnccaa", sum := "075ecd52c4ac9bc57020835277c54c41dfc7cd2d417f481944053e9e17801a41", func := "loop.example/g00076/laws.FnExactPermText", spec := "fnExactPermText", apart := false }
def FnExactPermTextSaid : Prop := fnExactPermTextRow.holds Try.pinned (OpenSpec.ofChange fnExactPermTextSpec)

/-- ITS FALSE NEIGHBOUR: 'it returns false'. Refute it at one input. -/
def fnExactPermTextWrong : ChangeSpec := { name := "fnExactPermText", fn := fun _ => fun
  | [d] => { results := [.lit (.bool false)], args := [d] }
  | _ => none }
def FnExactPermTextWrongFalsely : Prop := fnExactPermTextRow.holds Try.pinned (OpenSpec.ofChange fnExactPermTextWrong)

/-- 'laws.FnExactPermOf': WHATEVER THE INPUT: true; the input reads as it did. -/
def fnExactPermOfSpec : ChangeSpec := { name := "fnExactPermOf", fn := fun _ => fun
  | [d] => { results := [.lit (.bool true)], args := [d] }
  | _ => none }
def fnExactPermOfRow : OpenClaim := { program := "yteiblhjeomnccaa", sum := "075ecd52c4ac9bc57020835277c54c41dfc7cd2d417f481944053e9e17801a41", func := "loop.example/g00076/laws.FnExactPermOf", spec := "fnExactPermOf", apart := false }
def FnExactPermOfSaid : Prop := fnExactPermOfRow.holds Try.pinned (OpenSpec.ofChange fnExactPermOfSpec)

/-- ITS FALSE NEIGHBOUR: 'it returns false'. Refute it at one input. -/
def fnExactPermOfWrong : ChangeSpec := { name := "fnExactPermOf", fn := fun _ => fun
  | [d] => { results := [.lit (.bool false)], args := [d] }
  | _ => none }
def FnExactPermOfWrongFalsely : Prop := fnExactPermOfRow.holds Try.pinned (OpenSpec.ofChange fnExactPermOfWrong)

/-- 'laws.FnExactDevOk': WHATEVER THE INPUT: true; the input reads as it did. -/
def fnExactDevOkSpec : ChangeSpec := { name := "fnExactDevOk", fn := fun _ => fun
  | [d] => { results := [.lit (.bool true)], args := [d] }
  | _ => none }
def fnExactDevOkRow : OpenClaim := { program := "yteiblhjeomnccaa", sum := "075ecd52c4ac9bc57020835277c54c41dfc7cd2d417f481944053e9e17801a41", func := "loop.example/g00076/laws.FnExactDevOk", spec := "fnExactDevOk", apart := false }
def FnExactDevOkSaid : Prop := fnExactDevOkRow.holds Try.pinned (OpenSpec.ofChange fnExactDevOkSpec)

/-- ITS FALSE NEIGHBOUR: 'it returns false'. Refute it at one input. -/
def fnExactDevOkWrong : ChangeSpec := { name := "fnExactDevOk", fn := fun _ => fun
  | [d] => { results := [.lit (.bool false)], args := [d] }
  | _ => none }
def FnExactDevOkWrongFalsely : Prop := fnExactDevOkRow.holds Try.pinned (OpenSpec.ofChange fnExactDevOkWrong)

/-- 'laws.FnExactBusyOf': WHATEVER THE INPUT: true; the input reads as it did. -/
def fnExactBusyOfSpec : ChangeSpec := { name := "fnExactBusyOf", fn := fun _ => fun
  | [d] => { results := [.lit (.bool true)], args := [d] }
  | _ => none }
def fnExactBusyOfRow : OpenClaim := { program := "yteiblhjeomnccaa", sum := "075ecd52c4ac9bc57020835277c54c41dfc7cd2d417f481944053e9e17801a41", func := "loop.example/g00076/laws.FnExactBusyOf", spec := "fnExactBusyOf", apart := false }
def FnExactBusyOfSaid : Prop := fnExactBusyOfRow.holds Try.pinned (OpenSpec.ofChange fnExactBusyOfSpec)

/-- ITS FALSE NEIGHBOUR: 'it returns false'. Refute it at one input. -/
def fnExactBusyOfWrong : ChangeSpec := { name := "fnExactBusyOf", fn := fun _ => fun
  | [d] => { results := [.lit (.bool false)], args := [d] }
  | _ => none }
def FnExactBusyOfWrongFalsely : Prop := fnExactBusyOfRow.holds Try.pinned (OpenSpec.ofChange fnExactBusyOfWrong)

/-- 'laws.FnExactRetired': WHATEVER THE INPUT: true; the input reads as it did. -/
def fnExactRetiredSpec : ChangeSpec := { name := "fnExactRetired", fn := fun _ => fun
  | [d1, d2] => { results := [.lit (.bool true)], args := [d1, d2] }
  | _ => none }
def fnExactRetiredRow : OpenClaim := { program := "yteiblhjeomnccaa", sum := "075ecd52c4ac9bc57020835277c54c41dfc7cd2d417f481944053e9e17801a41", func := "loop.example/g00076/laws.FnExactRetired", spec := "fnExactRetired", apart := false }
def FnExactRetiredSaid : Prop := fnExactRetiredRow.holds Try.pinned (OpenSpec.ofChange fnExactRetiredSpec)

/-- ITS FALSE NEIGHBOUR: 'it returns false'. Refute it at one input. -/
def fnExactRetiredWrong : ChangeSpec := { name := "fnExactRetired", fn := fun _ => fun
  | [d1, d2] => { results := [.lit (.bool false)], args := [d1, d2] }
  | _ => none }
def FnExactRetiredWrongFalsely : Prop := fnExactRetiredRow.holds Try.pinned (OpenSpec.ofChange fnExactRetiredWrong)

/-- 'laws.FnExactDevInput': WHATEVER THE INPUT: true; the input reads as it did. -/
def fnExactDevInputSpec : ChangeSpec := { name := "fnExactDevInput", fn := fun _ => fun
  | [d1, d2] => { results := [.lit (.bool true)], args := [d1, d2] }
  | _ => none }
def fnExactDevInputRow : OpenClaim := { program := "yteiblhjeomnccaa", sum := "075ecd52c4ac9bc57020835277c54c41dfc7cd2d417f481944053e9e17801a41", func := "loop.example/g00076/laws.FnExactDevInput", spec := "fnExactDevInput", apart := false }
def FnExactDevInputSaid : Prop := fnExactDevInputRow.holds Try.pinned (OpenSpec.ofChange fnExactDevInputSpec)

/-- ITS FALSE NEIGHBOUR: 'it returns false'. Refute it at one input. -/
def fnExactDevInputWrong : ChangeSpec := { name := "fnExactDevInput", fn := fun _ => fun
  | [d1, d2] => { results := [.lit (.bool false)], args := [d1, d2] }
  | _ => none }
def FnExactDevInputWrongFalsely : Prop := fnExactDevInputRow.holds Try.pinned (OpenSpec.ofChange fnExactDevInputWrong)

/-- 'laws.FnExactDevRead': WHATEVER THE INPUT: true; the input reads as it did. -/
def fnExactDevReadSpec : ChangeSpec := { name := "fnExactDevRead", fn := fun _ => fun
  | [d] => { results := [.lit (.bool true)], args := [d] }
  | _ => none }
def fnExactDevReadRow : OpenClaim := { program := "yteiblhjeomnccaa", sum := "075ecd52c4ac9bc57020835277c54c41dfc7cd2d417f481944053e9e17801a41", func := "loop.example/g00076/laws.FnExactDevRead", spec := "fnExactDevRead", apart := false }
def FnExactDevReadSaid : Prop := fnExactDevReadRow.holds Try.pinned (OpenSpec.ofChange fnExactDevReadSpec)

/-- ITS FALSE NEIGHBOUR: 'it returns false'. Refute it at one input. -/
def fnExactDevReadWrong : ChangeSpec := { name := "fnExactDevRead", fn := fun _ => fun
  | [d] => { results := [.lit (.bool false)], args := [d] }
  | _ => none }
def FnExactDevReadWrongFalsely : Prop := fnExactDevReadRow.holds Try.pinned (OpenSpec.ofChange fnExactDevReadWrong)

/-- 'laws.FnExactWorstPad': WHATEVER THE INPUT: true; the input reads as it did. -/
def fnExactWorstPadSpec : ChangeSpec := { name := "fnExactWorstPad", fn := fun _ => fun
  | [d1, d2, d3] => { results := [.lit (.bool true)], args := [d1, d2, d3] }
  | _ => none }
def fnExactWorstPadRow : OpenClaim := { program := "yteiblhjeomnccaa", sum := "075ecd52c4ac9bc57020835277c54c41dfc7cd2d417f481944053e9e17801a41", func := "loop.example/g00076/laws.FnExactWorstPad", spec := "fnExactWorstPad", unfollowed := true, recurses := true, apart := false }
def FnExactWorstPadSaid : Prop := fnExactWorstPadRow.holds Try.pinned (OpenSpec.ofChange fnExactWorstPadSpec)

/-- ITS FALSE NEIGHBOUR: 'it returns false'. Refute it at one input. -/
def fnExactWorstPadWrong : ChangeSpec := { name := "fnExactWorstPad", fn := fun _ => fun
  | [d1, d2, d3] => { results := [.lit (.bool false)], args := [d1, d2, d3] }
  | _ => none }
def FnExactWorstPadWrongFalsely : Prop := fnExactWorstPadRow.holds Try.pinned (OpenSpec.ofChange fnExactWorstPadWrong)

/-- 'laws.FnExactDevOpen': WHATEVER THE INPUT: true; the input reads as it did. -/
def fnExactDevOpenSpec : ChangeSpec := { name := "fnExactDevOpen", fn := fun _ => fun
  | [d] => { results := [.lit (.bool true)], args := [d] }
  | _ => none }
def fnExactDevOpenRow : OpenClaim := { program := "yteiblhjeomnccaa", sum := "075ecd52c4ac9bc57020835277c54c41dfc7cd2d417f481944053e9e17801a41", func := "loop.example/g00076/laws.FnExactDevOpen", spec := "fnExactDevOpen", apart := false }
def FnExactDevOpenSaid : Prop := fnExactDevOpenRow.holds Try.pinned (OpenSpec.ofChange fnExactDevOpenSpec)

/-- ITS FALSE NEIGHBOUR: 'it returns false'. Refute it at one input. -/
def fnExactDevOpenWrong : ChangeSpec := { name := "fnExactDevOpen", fn := fun _ => fun
  | [d] => { results := [.lit (.bool false)], args := [d] }
  | _ => none }
def FnExactDevOpenWrongFalsely : Prop := fnExactDevOpenRow.holds Try.pinned (OpenSpec.ofChange fnExactDevOpenWrong)

/-- 'laws.FnExactDevPlay': WHATEVER THE INPUT: true; the input reads as it did. -/
def fnExactDevPlaySpec : ChangeSpec := { name := "fnExactDevPlay", fn := fun _ => fun
  | [d] => { results := [.lit (.bool true)], args := [d] }
  | _ => none }
def fnExactDevPlayRow : OpenClaim := { program := "yteiblhjeomnccaa", sum := "075ecd52c4ac9bc57020835277c54c41dfc7cd2d417f481944053e9e17801a41", func := "loop.example/g00076/laws.FnExactDevPlay", spec := "fnExactDevPlay", unfollowed := true, recurses := true, apart := false }
def FnExactDevPlaySaid : Prop := fnExactDevPlayRow.holds Try.pinned (OpenSpec.ofChange fnExactDevPlaySpec)

/-- ITS FALSE NEIGHBOUR: 'it returns false'. Refute it at one input. -/
def fnExactDevPlayWrong : ChangeSpec := { name := "fnExactDevPlay", fn := fun _ => fun
  | [d] => { results := [.lit (.bool false)], args := [d] }
  | _ => none }
def FnExactDevPlayWrongFalsely : Prop := fnExactDevPlayRow.holds Try.pinned (OpenSpec.ofChange fnExactDevPlayWrong)

/- THE SECOND FORM. 'bulk': how many values and letters a reading holds, each counted each time it is reached (what is shared counts as often as it is met; a slice's spare places count too). A statement '..UptoSaid' is the law's where the arguments, and the package variables that the reading takes, are together of bulk at most 1048576: NARROWER than '..Said'. Prove '..Said' where nothing that the law and all that it calls make is longer than what came in: it says more and counts as full. Else prove '..UptoSaid'. A law counts once. -/
mutual
def uptoBulk {H : Type} : DataW H → Nat
  | .lit (.string bytes) => bytes.length + 1
  | .lit _ => 1
  | .nil => 1
  | .ptr d => uptoBulk d + 1
  | .slice elems spare => uptoBulkAll elems + uptoBulkAll spare + 1
  | .agg parts => uptoBulkAll parts + 1
  | .iface _ d => uptoBulk d + 1
  | .map entries => uptoBulkEntries entries + 1
  | .held _ => 1
def uptoBulkAll {H : Type} : List (DataW H) → Nat
  | [] => 0
  | d :: r => uptoBulk d + uptoBulkAll r
def uptoBulkEntries {H : Type} : List (Lit × DataW H) → Nat
  | [] => 0
  | x :: r => uptoBulkEntry x + uptoBulkEntries r
def uptoBulkEntry {H : Type} : Lit × DataW H → Nat
  | (.string bytes, d) => bytes.length + uptoBulk d + 1
  | (_, d) => uptoBulk d + 1
 end
def uptoSmall : (H : Type) → List (DataW H) → Bool := fun _ ds => decide (uptoBulkAll ds ≤ 1048576)
def OpenSpec.upto (s : _root_.Go.ChangeSpec) : _root_.Go.OpenSpec := { _root_.Go.OpenSpec.ofChange s with cond := some uptoSmall }

/-- 'laws.FnExactWorkSum', WHERE WHAT IT READS IS OF BULK AT MOST 1048576: true; the input reads as it did. -/
def fnExactWorkSumUptoRow : OpenClaim := { program := "yteiblhjeomnccaa", sum := "075ecd52c4ac9bc57020835277c54c41dfc7cd2d417f481944053e9e17801a41", func := "loop.example/g00076/laws.FnExactWorkSum", spec := "fnExactWorkSum", apart := false, narrowed := true }
def FnExactWorkSumUptoSaid : Prop := fnExactWorkSumUptoRow.holds Try.pinned (OpenSpec.upto fnExactWorkSumSpec)

/-- 'laws.FnExactNameOk', WHERE WHAT IT READS IS OF BULK AT MOST 1048576: true; the input reads as it did. -/
def fnExactNameOkUptoRow : OpenClaim := { program := "yteiblhjeomnccaa", sum := "075ecd52c4ac9bc57020835277c54c41dfc7cd2d417f481944053e9e17801a41", func := "loop.example/g00076/laws.FnExactNameOk", spec := "fnExactNameOk", apart := false, narrowed := true }
def FnExactNameOkUptoSaid : Prop := fnExactNameOkUptoRow.holds Try.pinned (OpenSpec.upto fnExactNameOkSpec)

/-- 'laws.FnExactPermText', WHERE WHAT IT READS IS OF BULK AT MOST 1048576: true; the input reads as it did. -/
def fnExactPermTextUptoRow : OpenClaim := { program := "yteiblhjeomnccaa", sum := "075ecd52c4ac9bc57020835277c54c41dfc7cd2d417f481944053e9e17801a41", func := "loop.example/g00076/laws.FnExactPermText", spec := "fnExactPermText", apart := false, narrowed := true }
def FnExactPermTextUptoSaid : Prop := fnExactPermTextUptoRow.holds Try.pinned (OpenSpec.upto fnExactPermTextSpec)

/-- 'laws.FnExactPermOf', WHERE WHAT IT READS IS OF BULK AT MOST 1048576: true; the input reads as it did. -/
def fnExactPermOfUptoRow : OpenClaim := { program := "yteiblhjeomnccaa", sum := "075ecd52c4ac9bc57020835277c54c41dfc7cd2d417f481944053e9e17801a41", func := "loop.example/g00076/laws.FnExactPermOf", spec := "fnExactPermOf", apart := false, narrowed := true }
def FnExactPermOfUptoSaid : Prop := fnExactPermOfUptoRow.holds Try.pinned (OpenSpec.upto fnExactPermOfSpec)

/-- 'laws.FnExactDevOk', WHERE WHAT IT READS IS OF BULK AT MOST 1048576: true; the input reads as it did. -/
def fnExactDevOkUptoRow : OpenClaim := { program := "yteiblhjeomnccaa", sum := "075ecd52c4ac9bc57020835277c54c41dfc7cd2d417f481944053e9e17801a41", func := "loop.example/g00076/laws.FnExactDevOk", spec := "fnExactDevOk", apart := false, narrowed := true }
def FnExactDevOkUptoSaid : Prop := fnExactDevOkUptoRow.holds Try.pinned (OpenSpec.upto fnExactDevOkSpec)

/-- 'laws.FnExactBusyOf', WHERE WHAT IT READS IS OF BULK AT MOST 1048576: true; the input reads as it did. -/
def fnExactBusyOfUptoRow : OpenClaim := { program := "yteiblhjeomnccaa", sum := "075ecd52c4ac9bc57020835277c54c41dfc7cd2d417f481944053e9e17801a41", func := "loop.example/g00076/laws.FnExactBusyOf", spec := "fnExactBusyOf", apart := false, narrowed := true }
def FnExactBusyOfUptoSaid : Prop := fnExactBusyOfUptoRow.holds Try.pinned (OpenSpec.upto fnExactBusyOfSpec)

/-- 'laws.FnExactRetired', WHERE WHAT IT READS IS OF BULK AT MOST 1048576: true; the input reads as it did. -/
def fnExactRetiredUptoRow : OpenClaim := { program := "yteiblhjeomnccaa", sum := "075ecd52c4ac9bc57020835277c54c41dfc7cd2d417f481944053e9e17801a41", func := "loop.example/g00076/laws.FnExactRetired", spec := "fnExactRetired", apart := false, narrowed := true }
def FnExactRetiredUptoSaid : Prop := fnExactRetiredUptoRow.holds Try.pinned (OpenSpec.upto fnExactRetiredSpec)

/-- 'laws.FnExactDevInput', WHERE WHAT IT READS IS OF BULK AT MOST 1048576: true; the input reads as it did. -/
def fnExactDevInputUptoRow : OpenClaim := { program := "yteiblhjeomnccaa", sum := "075ecd52c4ac9bc57020835277c54c41dfc7cd2d417f481944053e9e17801a41", func := "loop.example/g00076/laws.FnExactDevInput", spec := "fnExactDevInput", apart := false, narrowed := true }
def FnExactDevInputUptoSaid : Prop := fnExactDevInputUptoRow.holds Try.pinned (OpenSpec.upto fnExactDevInputSpec)

/-- 'laws.FnExactDevRead', WHERE WHAT IT READS IS OF BULK AT MOST 1048576: true; the input reads as it did. -/
def fnExactDevReadUptoRow : OpenClaim := { program := "yteiblhjeomnccaa", sum := "075ecd52c4ac9bc57020835277c54c41dfc7cd2d417f481944053e9e17801a41", func := "loop.example/g00076/laws.FnExactDevRead", spec := "fnExactDevRead", apart := false, narrowed := true }
def FnExactDevReadUptoSaid : Prop := fnExactDevReadUptoRow.holds Try.pinned (OpenSpec.upto fnExactDevReadSpec)

/-- 'laws.FnExactWorstPad', WHERE WHAT IT READS IS OF BULK AT MOST 1048576: true; the input reads as it did. -/
def fnExactWorstPadUptoRow : OpenClaim := { program := "yteiblhjeomnccaa", sum := "075ecd52c4ac9bc57020835277c54c41dfc7cd2d417f481944053e9e17801a41", func := "loop.example/g00076/laws.FnExactWorstPad", spec := "fnExactWorstPad", unfollowed := true, recurses := true, apart := false, narrowed := true }
def FnExactWorstPadUptoSaid : Prop := fnExactWorstPadUptoRow.holds Try.pinned (OpenSpec.upto fnExactWorstPadSpec)

/-- 'laws.FnExactDevOpen', WHERE WHAT IT READS IS OF BULK AT MOST 1048576: true; the input reads as it did. -/
def fnExactDevOpenUptoRow : OpenClaim := { program := "yteiblhjeomnccaa", sum := "075ecd52c4ac9bc57020835277c54c41dfc7cd2d417f481944053e9e17801a41", func := "loop.example/g00076/laws.FnExactDevOpen", spec := "fnExactDevOpen", apart := false, narrowed := true }
def FnExactDevOpenUptoSaid : Prop := fnExactDevOpenUptoRow.holds Try.pinned (OpenSpec.upto fnExactDevOpenSpec)

/-- 'laws.FnExactDevPlay', WHERE WHAT IT READS IS OF BULK AT MOST 1048576: true; the input reads as it did. -/
def fnExactDevPlayUptoRow : OpenClaim := { program := "yteiblhjeomnccaa", sum := "075ecd52c4ac9bc57020835277c54c41dfc7cd2d417f481944053e9e17801a41", func := "loop.example/g00076/laws.FnExactDevPlay", spec := "fnExactDevPlay", unfollowed := true, recurses := true, apart := false, narrowed := true }
def FnExactDevPlayUptoSaid : Prop := fnExactDevPlayUptoRow.holds Try.pinned (OpenSpec.upto fnExactDevPlaySpec)

end Rows
end Go.Proofs.Yteiblhjeomnccaa
