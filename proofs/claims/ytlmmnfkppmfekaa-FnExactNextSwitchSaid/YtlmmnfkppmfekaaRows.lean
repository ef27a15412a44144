/-
  No cell of these rows narrows 'for every input' (looked for: loops, veiled, ifaces, maps, wideKeys, modest, calm, conditions, laid).
  DERIVED. THE GIVEN ROWS OF THIS SEAT. 9 by the template 'for every input the law returns true; each argument reads behind the call as it read before'; 0 by the template 'total and deterministic' (their statements: YtlmmnfkppmfekaaTotals.lean).
  GIVEN WITH THE SEED: the statements are not yours to turn. If you find one false, say at which input.
  Laid BY PROGRAM, IN A SANDBOX (cutbox-rows.mjs): the forced cells as the released guide's own fill.sh prints them over the translation f73a20e752f8fe3d… (all of the seat's roots in one cut). By AI agents, Wed Nov 11 2026. No macro, syntax, notation, axiom, sorry.
-/
import Derived.Test.YtlmmnfkppmfekaaChecked
import GoSem.Claim
import GoSem.ClaimJoined
import GoSem.ClaimMapViews
import Derived.JoinedTies
import Derived.KernelRfl
namespace Go.Proofs.Ytlmmnfkppmfekaa
/- THE CELL 'sum', in the pinned program and in every row, IS THE sha256 OF THE DUMP (.gsa) THAT YtlmmnfkppmfekaaProg.lean LOADS. Nothing in Lean hashes anything: it is a label: what it is worth is what the hold of that sum in a sandbox is worth. -/
noncomputable def Try.pinned : Pinned := { name := "ytlmmnfkppmfekaa", sum := "f73a20e752f8fe3ddc84670ad960c193e3006dcc7bbe8bf3931b5a4bb6f79fb5", checked := Try.checked }
namespace Rows
def none {H : Type} : Left H := { results := [], args := [] }

/-- 'laws.FnExactSound': WHATEVER THE INPUT: true; the input reads as it did. -/
def fnExactSoundSpec : ChangeSpec := { name := "fnExactSound", fn := fun _ => fun
  | [d] => { results := [.lit (.bool true)], args := [d] }
  | _ => none }
def fnExactSoundRow : OpenClaim := { program := "ytlmmnfkppmfekaa", sum := "f73a20e752f8fe3ddc84670ad960c193e3006dcc7bbe8bf3931b5a4bb6f79fb5", func := "loop.example/g00076/laws.FnExactSound", spec := "fnExactSound", unfollowed := true, recurses := true, apart := false }
def FnExactSoundSaid : Prop := fnExactSoundRow.holds Try.pinned (OpenSpec.ofChange fnExactSoundSpec)

/-- ITS FALSE NEIGHBOUR: 'it returns false'. Refute it at one input. -/
def fnExactSoundWrong : ChangeSpec := { name := "fnExactSound", fn := fun _ => fun
  | [d] => { results := [.lit (.bool false)], args := [d] }
  | _ => none }
def FnExactSoundWrongFalsely : Prop := fnExactSoundRow.holds Try.pinned (OpenSpec.ofChange fnExactSoundWrong)

/-- 'laws.FnExactSpare': WHATEVER THE INPUT: true; the input reads as it did. -/
def fnExactSpareSpec : ChangeSpec := { name := "fnExactSpare", fn := fun _ => fun
  | [d] => { results := [.lit (.bool true)], args := [d] }
  | _ => none }
def fnExactSpareRow : OpenClaim := { program := "ytlmmnfkppmfekaa", sum := "f73a20e752f8fe3ddc84670ad960c193e3006dcc7bbe8bf3931b5a4bb6f79fb5", func := "loop.example/g00076/laws.FnExactSpare", spec := "fnExactSpare", unfollowed := true, recurses := true, apart := false }
def FnExactSpareSaid : Prop := fnExactSpareRow.holds Try.pinned (OpenSpec.ofChange fnExactSpareSpec)

/-- ITS FALSE NEIGHBOUR: 'it returns false'. Refute it at one input. -/
def fnExactSpareWrong : ChangeSpec := { name := "fnExactSpare", fn := fun _ => fun
  | [d] => { results := [.lit (.bool false)], args := [d] }
  | _ => none }
def FnExactSpareWrongFalsely : Prop := fnExactSpareRow.holds Try.pinned (OpenSpec.ofChange fnExactSpareWrong)

/-- 'laws.FnExactFrameOf': WHATEVER THE INPUT: true; the input reads as it did. -/
def fnExactFrameOfSpec : ChangeSpec := { name := "fnExactFrameOf", fn := fun _ => fun
  | [d1, d2] => { results := [.lit (.bool true)], args := [d1, d2] }
  | _ => none }
def fnExactFrameOfRow : OpenClaim := { program := "ytlmmnfkppmfekaa", sum := "f73a20e752f8fe3ddc84670ad960c193e3006dcc7bbe8bf3931b5a4bb6f79fb5", func := "loop.example/g00076/laws.FnExactFrameOf", spec := "fnExactFrameOf", unfollowed := true, recurses := true, apart := false }
def FnExactFrameOfSaid : Prop := fnExactFrameOfRow.holds Try.pinned (OpenSpec.ofChange fnExactFrameOfSpec)

/-- ITS FALSE NEIGHBOUR: 'it returns false'. Refute it at one input. -/
def fnExactFrameOfWrong : ChangeSpec := { name := "fnExactFrameOf", fn := fun _ => fun
  | [d1, d2] => { results := [.lit (.bool false)], args := [d1, d2] }
  | _ => none }
def FnExactFrameOfWrongFalsely : Prop := fnExactFrameOfRow.holds Try.pinned (OpenSpec.ofChange fnExactFrameOfWrong)

/-- 'laws.FnExactPartNamed': WHATEVER THE INPUT: true; the input reads as it did. -/
def fnExactPartNamedSpec : ChangeSpec := { name := "fnExactPartNamed", fn := fun _ => fun
  | [d1, d2] => { results := [.lit (.bool true)], args := [d1, d2] }
  | _ => none }
def fnExactPartNamedRow : OpenClaim := { program := "ytlmmnfkppmfekaa", sum := "f73a20e752f8fe3ddc84670ad960c193e3006dcc7bbe8bf3931b5a4bb6f79fb5", func := "loop.example/g00076/laws.FnExactPartNamed", spec := "fnExactPartNamed", unfollowed := true, recurses := true, apart := false }
def FnExactPartNamedSaid : Prop := fnExactPartNamedRow.holds Try.pinned (OpenSpec.ofChange fnExactPartNamedSpec)

/-- ITS FALSE NEIGHBOUR: 'it returns false'. Refute it at one input. -/
def fnExactPartNamedWrong : ChangeSpec := { name := "fnExactPartNamed", fn := fun _ => fun
  | [d1, d2] => { results := [.lit (.bool false)], args := [d1, d2] }
  | _ => none }
def FnExactPartNamedWrongFalsely : Prop := fnExactPartNamedRow.holds Try.pinned (OpenSpec.ofChange fnExactPartNamedWrong)

/-- 'laws.FnExactShareOf': WHATEVER THE INPUT: true; the input reads as it did. -/
def fnExactShareOfSpec : ChangeSpec := { name := "fnExactShareOf", fn := fun _ => fun
  | [d1, d2] => { results := [.lit (.bool true)], args := [d1, d2] }
  | _ => none }
def fnExactShareOfRow : OpenClaim := { program := "ytlmmnfkppmfekaa", sum := "f73a20e752f8fe3ddc84670ad960c193e3006dcc7bbe8bf3931b5a4bb6f79fb5", func := "loop.example/g00076/laws.FnExactShareOf", spec := "fnExactShareOf", unfollowed := true, recurses := true, apart := false }
def FnExactShareOfSaid : Prop := fnExactShareOfRow.holds Try.pinned (OpenSpec.ofChange fnExactShareOfSpec)

/-- ITS FALSE NEIGHBOUR: 'it returns false'. Refute it at one input. -/
def fnExactShareOfWrong : ChangeSpec := { name := "fnExactShareOf", fn := fun _ => fun
  | [d1, d2] => { results := [.lit (.bool false)], args := [d1, d2] }
  | _ => none }
def FnExactShareOfWrongFalsely : Prop := fnExactShareOfRow.holds Try.pinned (OpenSpec.ofChange fnExactShareOfWrong)

/-- 'laws.FnExactOwnerOf': WHATEVER THE INPUT: true; the input reads as it did. -/
def fnExactOwnerOfSpec : ChangeSpec := { name := "fnExactOwnerOf", fn := fun _ => fun
  | [d1, d2] => { results := [.lit (.bool true)], args := [d1, d2] }
  | _ => none }
def fnExactOwnerOfRow : OpenClaim := { program := "ytlmmnfkppmfekaa", sum := "f73a20e752f8fe3ddc84670ad960c193e3006dcc7bbe8bf3931b5a4bb6f79fb5", func := "loop.example/g00076/laws.FnExactOwnerOf", spec := "fnExactOwnerOf", unfollowed := true, recurses := true, apart := false }
def FnExactOwnerOfSaid : Prop := fnExactOwnerOfRow.holds Try.pinned (OpenSpec.ofChange fnExactOwnerOfSpec)

/-- ITS FALSE NEIGHBOUR: 'it returns false'. Refute it at one input. -/
def fnExactOwnerOfWrong : ChangeSpec := { name := "fnExactOwnerOf", fn := fun _ => fun
  | [d1, d2] => { results := [.lit (.bool false)], args := [d1, d2] }
  | _ => none }
def FnExactOwnerOfWrongFalsely : Prop := fnExactOwnerOfRow.holds Try.pinned (OpenSpec.ofChange fnExactOwnerOfWrong)

/-- 'laws.FnExactCarries': WHATEVER THE INPUT: true; the input reads as it did. -/
def fnExactCarriesSpec : ChangeSpec := { name := "fnExactCarries", fn := fun _ => fun
  | [d] => { results := [.lit (.bool true)], args := [d] }
  | _ => none }
def fnExactCarriesRow : OpenClaim := { program := "ytlmmnfkppmfekaa", sum := "f73a20e752f8fe3ddc84670ad960c193e3006dcc7bbe8bf3931b5a4bb6f79fb5", func := "loop.example/g00076/laws.FnExactCarries", spec := "fnExactCarries", unfollowed := true, recurses := true, apart := false }
def FnExactCarriesSaid : Prop := fnExactCarriesRow.holds Try.pinned (OpenSpec.ofChange fnExactCarriesSpec)

/-- ITS FALSE NEIGHBOUR: 'it returns false'. Refute it at one input. -/
def fnExactCarriesWrong : ChangeSpec := { name := "fnExactCarries", fn := fun _ => fun
  | [d] => { results := [.lit (.bool false)], args := [d] }
  | _ => none }
def FnExactCarriesWrongFalsely : Prop := fnExactCarriesRow.holds Try.pinned (OpenSpec.ofChange fnExactCarriesWrong)

/-- 'laws.FnExactGapOf': WHATEVER THE INPUT: true; the input reads as it did. -/
def fnExactGapOfSpec : ChangeSpec := { name := "fnExactGapOf", fn := fun _ => fun
  | [d] => { results := [.lit (.bool true)], args := [d] }
  | _ => none }
def fnExactGapOfRow : OpenClaim := { program := "ytlmmnfkppmfekaa", sum := "f73a20e752f8fe3ddc84670ad960c193e3006dcc7bbe8bf3931b5a4bb6f79fb5", func := "loop.example/g00076/laws.FnExactGapOf", spec := "fnExactGapOf", unfollowed := true, recurses := true, apart := false }
def FnExactGapOfSaid : Prop := fnExactGapOfRow.holds Try.pinned (OpenSpec.ofChange fnExactGapOfSpec)

/-- ITS FALSE NEIGHBOUR: 'it returns false'. Refute it at one input. -/
def fnExactGapOfWrong : ChangeSpec := { name := "fnExactGapOf", fn := fun _ => fun
  | [d] => { results := [.lit (.bool false)], args := [d] }
  | _ => none }
def FnExactGapOfWrongFalsely : Prop := fnExactGapOfRow.holds Try.pinned (OpenSpec.ofChange fnExactGapOfWrong)

/-- 'laws.FnExactNextSwitch': WHATEVER THE INPUT: true; the input reads as it did. -/
def fnExactNextSwitchSpec : ChangeSpec := { name := "fnExactNextSwitch", fn := fun _ => fun
  | [d1, d2] => { results := [.lit (.bool true)], args := [d1, d2] }
  | _ => none }
def fnExactNextSwitchRow : OpenClaim := { program := "ytlmmnfkppmfekaa", sum := "f73a20e752f8fe3ddc84670ad960c193e3006dcc7bbe8bf3931b5a4bb6f79fb5", func := "loop.example/g00076/laws.FnExactNextSwitch", spec := "fnExactNextSwitch", unfollowed := true, recurses := true, apart := false }
def FnExactNextSwitchSaid : Prop := fnExactNextSwitchRow.holds Try.pinned (OpenSpec.ofChange fnExactNextSwitchSpec)

/-- ITS FALSE NEIGHBOUR: 'it returns false'. Refute it at one input. -/
def fnExactNextSwitchWrong : ChangeSpec := { name := "fnExactNextSwitch", fn := fun _ => fun
  | [d1, d2] => { results := [.lit (.bool false)], args := [d1, d2] }
  | _ => none }
def FnExactNextSwitchWrongFalsely : Prop := fnExactNextSwitchRow.holds Try.pinned (OpenSpec.ofChange fnExactNextSwitchWrong)

/- THE SECOND FORM. 'bulk': how many values and letters a reading holds, each counted each time it is reached (what is shared counts as often as it is met; a slice's spare places count too). A statement '..UptoSaid' is the law's where the arguments, and the package variables that the reading takes, are together of bulk at most 1048576: NARROWER than '..Said'. Prove '..Said' where nothing that the law and all that it calls make is longer than what came in: it says more and counts as full. Else prove '..UptoSaid'. A law counts once. -/
mutual
def uptoBulk {H : Type} : DataW H → Nat
  | .lit (.string bytes) => bytes.length + 1
  | .lit _ => 1
  | .nil => 1
  | .ptr d => uptoBulk d + 1
  | .slice elems spare => uptoBulkAll elems + uptoBulkAll spare + 1
  | .agg parts => uptoBulkAll parts + 1
  | .iface _ d => uptoBulk d + 1
  | .map entries => uptoBulkEntries entries + 1
  | .held _ => 1
def uptoBulkAll {H : Type} : List (DataW H) → Nat
  | [] => 0
  | d :: r => uptoBulk d + uptoBulkAll r
def uptoBulkEntries {H : Type} : List (Lit × DataW H) → Nat
  | [] => 0
  | x :: r => uptoBulkEntry x + uptoBulkEntries r
def uptoBulkEntry {H : Type} : Lit × DataW H → Nat
  | (.string bytes, d) => bytes.length + uptoBulk d + 1
  | (_, d) => uptoBulk d + 1
 end
def uptoSmall : (H : Type) → List (DataW H) → Bool := fun _ ds => decide (uptoBulkAll ds ≤ 1048576)
def OpenSpec.upto (s : _root_.Go.ChangeSpec) : _root_.Go.OpenSpec := { _root_.Go.OpenSpec.ofChange s with cond := some uptoSmall }

/-- 'laws.FnExactSound', WHERE WHAT IT READS IS OF BULK AT MOST 1048576: true; the input reads as it did. -/
def fnExactSoundUptoRow : OpenClaim := { program := "ytlmmnfkppmfekaa", sum := "f73a20e752f8fe3ddc84670ad960c193e3006dcc7bbe8bf3931b5a4bb6f79fb5", func := "loop.example/g00076/laws.FnExactSound", spec := "fnExactSound", unfollowed := true, recurses := true, apart := false, narrowed := true }
def FnExactSoundUptoSaid : Prop := fnExactSoundUptoRow.holds Try.pinned (OpenSpec.upto fnExactSoundSpec)

/-- 'laws.FnExactSpare', WHERE WHAT IT READS IS OF BULK AT MOST 1048576: true; the input reads as it did. -/
def fnExactSpareUptoRow : OpenClaim := { program := "ytlmmnfkppmfekaa", sum := "f73a20e752f8fe3ddc84670ad960c193e3006dcc7bbe8bf3931b5a4bb6f79fb5", func := "loop.example/g00076/laws.FnExactSpare", spec := "fnExactSpare", unfollowed := true, recurses := true, apart := false, narrowed := true }
def FnExactSpareUptoSaid : Prop := fnExactSpareUptoRow.holds Try.pinned (OpenSpec.upto fnExactSpareSpec)

/-- 'laws.FnExactFrameOf', WHERE WHAT IT READS IS OF BULK AT MOST 1048576: true; the input reads as it did. -/
def fnExactFrameOfUptoRow : OpenClaim := { program := "ytlmmnfkppmfekaa", sum := "f73a20e752f8fe3ddc84670ad960c193e3006dcc7bbe8bf3931b5a4bb6f79fb5", func := "loop.example/g00076/laws.FnExactFrameOf", spec := "fnExactFrameOf", unfollowed := true, recurses := true, apart := false, narrowed := true }
def FnExactFrameOfUptoSaid : Prop := fnExactFrameOfUptoRow.holds Try.pinned (OpenSpec.upto fnExactFrameOfSpec)

/-- 'laws.FnExactPartNamed', WHERE WHAT IT READS IS OF BULK AT MOST 1048576: true; the input reads as it did. -/
def fnExactPartNamedUptoRow : OpenClaim := { program := "ytlmmnfkppmfekaa", sum := "f73a20e752f8fe3ddc84670ad960c193e3006dcc7bbe8bf3931b5a4bb6f79fb5", func := "loop.example/g00076/laws.FnExactPartNamed", spec := "fnExactPartNamed", unfollowed := true, recurses := true, apart := false, narrowed := true }
def FnExactPartNamedUptoSaid : Prop := fnExactPartNamedUptoRow.holds Try.pinned (OpenSpec.upto fnExactPartNamedSpec)

/-- 'laws.FnExactShareOf', WHERE WHAT IT READS IS OF BULK AT MOST 1048576: true; the input reads as it did. -/
def fnExactShareOfUptoRow : OpenClaim := { program := "ytlmmnfkppmfekaa", sum := "f73a20e752f8fe3ddc84670ad960c193e3006dcc7bbe8bf3931b5a4bb6f79fb5", func := "loop.example/g00076/laws.FnExactShareOf", spec := "fnExactShareOf", unfollowed := true, recurses := true, apart := false, narrowed := true }
def FnExactShareOfUptoSaid : Prop := fnExactShareOfUptoRow.holds Try.pinned (OpenSpec.upto fnExactShareOfSpec)

/-- 'laws.FnExactOwnerOf', WHERE WHAT IT READS IS OF BULK AT MOST 1048576: true; the input reads as it did. -/
def fnExactOwnerOfUptoRow : OpenClaim := { program := "ytlmmnfkppmfekaa", sum := "f73a20e752f8fe3ddc84670ad960c193e3006dcc7bbe8bf3931b5a4bb6f79fb5", func := "loop.example/g00076/laws.FnExactOwnerOf", spec := "fnExactOwnerOf", unfollowed := true, recurses := true, apart := false, narrowed := true }
def FnExactOwnerOfUptoSaid : Prop := fnExactOwnerOfUptoRow.holds Try.pinned (OpenSpec.upto fnExactOwnerOfSpec)

/-- 'laws.FnExactCarries', WHERE WHAT IT READS IS OF BULK AT MOST 1048576: true; the input reads as it did. -/
def fnExactCarriesUptoRow : OpenClaim := { program := "ytlmmnfkppmfekaa", sum := "f73a20e752f8fe3ddc84670ad960c193e3006dcc7bbe8bf3931b5a4bb6f79fb5", func := "loop.example/g00076/laws.FnExactCarries", spec := "fnExactCarries", unfollowed := true, recurses := true, apart := false, narrowed := true }
def FnExactCarriesUptoSaid : Prop := fnExactCarriesUptoRow.holds Try.pinned (OpenSpec.upto fnExactCarriesSpec)

/-- 'laws.FnExactGapOf', WHERE WHAT IT READS IS OF BULK AT MOST 1048576: true; the input reads as it did. -/
def fnExactGapOfUptoRow : OpenClaim := { program := "ytlmmnfkppmfekaa", sum := "f73a20e752f8fe3ddc84670ad960c193e3006dcc7bbe8bf3931b5a4bb6f79fb5", func := "loop.example/g00076/laws.FnExactGapOf", spec := "fnExactGapOf", unfollowed := true, recurses := true, apart := false, narrowed := true }
def FnExactGapOfUptoSaid : Prop := fnExactGapOfUptoRow.holds Try.pinned (OpenSpec.upto fnExactGapOfSpec)

/-- 'laws.FnExactNextSwitch', WHERE WHAT IT READS IS OF BULK AT MOST 1048576: true; the input reads as it did. -/
def fnExactNextSwitchUptoRow : OpenClaim := { program := "ytlmmnfkppmfekaa", sum := "f73a20e752f8fe3ddc84670ad960c193e3006dcc7bbe8bf3931b5a4bb6f79fb5", func := "loop.example/g00076/laws.FnExactNextSwitch", spec := "fnExactNextSwitch", unfollowed := true, recurses := true, apart := false, narrowed := true }
def FnExactNextSwitchUptoSaid : Prop := fnExactNextSwitchUptoRow.holds Try.pinned (OpenSpec.upto fnExactNextSwitchSpec)

end Rows
end Go.Proofs.Ytlmmnfkppmfekaa
