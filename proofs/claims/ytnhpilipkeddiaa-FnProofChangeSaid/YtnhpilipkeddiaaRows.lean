/-
  No cell of these rows narrows 'for every input' (looked for: loops, veiled, ifaces, maps, wideKeys, modest, calm, conditions, laid).
  DERIVED. THE GIVEN ROWS OF THIS SEAT. 7 by the template 'for every input the law returns true; each argument reads behind the call as it read before'; 0 by the template 'total and deterministic' (their statements: YtnhpilipkeddiaaTotals.lean).
  GIVEN WITH THE SEED: the statements are not yours to turn. If you find one false, say at which input.
  Laid BY PROGRAM, IN A SANDBOX (cutbox-rows.mjs): the forced cells as the released guide's own fill.sh prints them over the translation 91126c6e80dfdac8… (all of the seat's roots in one cut). By AI agents, Wed Nov 11 2026. No macro, syntax, notation, axiom, sorry.
-/
import Derived.Test.YtnhpilipkeddiaaChecked
import GoSem.Claim
import GoSem.ClaimJoined
import GoSem.ClaimMapViews
import Derived.JoinedTies
import Derived.KernelRfl
namespace Go.Proofs.Ytnhpilipkeddiaa
/- THE CELL 'sum', in the pinned program and in every row, IS THE sha256 OF THE DUMP (.gsa) THAT YtnhpilipkeddiaaProg.lean LOADS. Nothing in Lean hashes anything: it is a label: what it is worth is what the hold of that sum in a sandbox is worth. -/
noncomputable def Try.pinned : Pinned := { name := "ytnhpilipkeddiaa", sum := "91126c6e80dfdac8c81a1d0dea95be1485f1d9541f9eef4eb50537b4eb326930", checked := Try.checked }
namespace Rows
def none {H : Type} : Left H := { results := [], args := [] }

/-- 'laws.FnExactTreeCheck': WHATEVER THE INPUT: true; the input reads as it did. -/
def fnExactTreeCheckSpec : ChangeSpec := { name := "fnExactTreeCheck", fn := fun _ => fun
  | [d1, d2, d3, d4, d5] => { results := [.lit (.bool true)], args := [d1, d2, d3, d4, d5] }
  | _ => none }
def fnExactTreeCheckRow : OpenClaim := { program := "ytnhpilipkeddiaa", sum := "91126c6e80dfdac8c81a1d0dea95be1485f1d9541f9eef4eb50537b4eb326930", func := "loop.example/feedswarm/laws.FnExactTreeCheck", spec := "fnExactTreeCheck", plainKeys := false, apart := false }
def FnExactTreeCheckSaid : Prop := fnExactTreeCheckRow.holds Try.pinned (OpenSpec.ofChange fnExactTreeCheckSpec)

/-- ITS FALSE NEIGHBOUR: 'it returns false'. Refute it at one input. -/
def fnExactTreeCheckWrong : ChangeSpec := { name := "fnExactTreeCheck", fn := fun _ => fun
  | [d1, d2, d3, d4, d5] => { results := [.lit (.bool false)], args := [d1, d2, d3, d4, d5] }
  | _ => none }
def FnExactTreeCheckWrongFalsely : Prop := fnExactTreeCheckRow.holds Try.pinned (OpenSpec.ofChange fnExactTreeCheckWrong)

/-- 'laws.FnExactTreeProof': WHATEVER THE INPUT: true; the input reads as it did. -/
def fnExactTreeProofSpec : ChangeSpec := { name := "fnExactTreeProof", fn := fun _ => fun
  | [d1, d2] => { results := [.lit (.bool true)], args := [d1, d2] }
  | _ => none }
def fnExactTreeProofRow : OpenClaim := { program := "ytnhpilipkeddiaa", sum := "91126c6e80dfdac8c81a1d0dea95be1485f1d9541f9eef4eb50537b4eb326930", func := "loop.example/feedswarm/laws.FnExactTreeProof", spec := "fnExactTreeProof", recurses := true, plainKeys := false, apart := false }
def FnExactTreeProofSaid : Prop := fnExactTreeProofRow.holds Try.pinned (OpenSpec.ofChange fnExactTreeProofSpec)

/-- ITS FALSE NEIGHBOUR: 'it returns false'. Refute it at one input. -/
def fnExactTreeProofWrong : ChangeSpec := { name := "fnExactTreeProof", fn := fun _ => fun
  | [d1, d2] => { results := [.lit (.bool false)], args := [d1, d2] }
  | _ => none }
def FnExactTreeProofWrongFalsely : Prop := fnExactTreeProofRow.holds Try.pinned (OpenSpec.ofChange fnExactTreeProofWrong)

/-- 'laws.FnTreeSmall': WHATEVER THE INPUT: true; the input reads as it did. -/
def fnTreeSmallSpec : ChangeSpec := { name := "fnTreeSmall", fn := fun _ => fun
  | [d] => { results := [.lit (.bool true)], args := [d] }
  | _ => none }
def fnTreeSmallRow : OpenClaim := { program := "ytnhpilipkeddiaa", sum := "91126c6e80dfdac8c81a1d0dea95be1485f1d9541f9eef4eb50537b4eb326930", func := "loop.example/feedswarm/laws.FnTreeSmall", spec := "fnTreeSmall", recurses := true, plainKeys := false, apart := false }
def FnTreeSmallSaid : Prop := fnTreeSmallRow.holds Try.pinned (OpenSpec.ofChange fnTreeSmallSpec)

/-- ITS FALSE NEIGHBOUR: 'it returns false'. Refute it at one input. -/
def fnTreeSmallWrong : ChangeSpec := { name := "fnTreeSmall", fn := fun _ => fun
  | [d] => { results := [.lit (.bool false)], args := [d] }
  | _ => none }
def FnTreeSmallWrongFalsely : Prop := fnTreeSmallRow.holds Try.pinned (OpenSpec.ofChange fnTreeSmallWrong)

/-- 'laws.FnProof': WHATEVER THE INPUT: true; the input reads as it did. -/
def fnProofSpec : ChangeSpec := { name := "fnProof", fn := fun _ => fun
  | [d] => { results := [.lit (.bool true)], args := [d] }
  | _ => none }
def fnProofRow : OpenClaim := { program := "ytnhpilipkeddiaa", sum := "91126c6e80dfdac8c81a1d0dea95be1485f1d9541f9eef4eb50537b4eb326930", func := "loop.example/feedswarm/laws.FnProof", spec := "fnProof", recurses := true, plainKeys := false, apart := false }
def FnProofSaid : Prop := fnProofRow.holds Try.pinned (OpenSpec.ofChange fnProofSpec)

/-- ITS FALSE NEIGHBOUR: 'it returns false'. Refute it at one input. -/
def fnProofWrong : ChangeSpec := { name := "fnProof", fn := fun _ => fun
  | [d] => { results := [.lit (.bool false)], args := [d] }
  | _ => none }
def FnProofWrongFalsely : Prop := fnProofRow.holds Try.pinned (OpenSpec.ofChange fnProofWrong)

/-- 'laws.FnProofLeaf': WHATEVER THE INPUT: true; the input reads as it did. -/
def fnProofLeafSpec : ChangeSpec := { name := "fnProofLeaf", fn := fun _ => fun
  | [d1, d2] => { results := [.lit (.bool true)], args := [d1, d2] }
  | _ => none }
def fnProofLeafRow : OpenClaim := { program := "ytnhpilipkeddiaa", sum := "91126c6e80dfdac8c81a1d0dea95be1485f1d9541f9eef4eb50537b4eb326930", func := "loop.example/feedswarm/laws.FnProofLeaf", spec := "fnProofLeaf", recurses := true, plainKeys := false, apart := false }
def FnProofLeafSaid : Prop := fnProofLeafRow.holds Try.pinned (OpenSpec.ofChange fnProofLeafSpec)

/-- ITS FALSE NEIGHBOUR: 'it returns false'. Refute it at one input. -/
def fnProofLeafWrong : ChangeSpec := { name := "fnProofLeaf", fn := fun _ => fun
  | [d1, d2] => { results := [.lit (.bool false)], args := [d1, d2] }
  | _ => none }
def FnProofLeafWrongFalsely : Prop := fnProofLeafRow.holds Try.pinned (OpenSpec.ofChange fnProofLeafWrong)

/-- 'laws.FnProofLength': WHATEVER THE INPUT: true; the input reads as it did. -/
def fnProofLengthSpec : ChangeSpec := { name := "fnProofLength", fn := fun _ => fun
  | [d] => { results := [.lit (.bool true)], args := [d] }
  | _ => none }
def fnProofLengthRow : OpenClaim := { program := "ytnhpilipkeddiaa", sum := "91126c6e80dfdac8c81a1d0dea95be1485f1d9541f9eef4eb50537b4eb326930", func := "loop.example/feedswarm/laws.FnProofLength", spec := "fnProofLength", recurses := true, plainKeys := false, apart := false }
def FnProofLengthSaid : Prop := fnProofLengthRow.holds Try.pinned (OpenSpec.ofChange fnProofLengthSpec)

/-- ITS FALSE NEIGHBOUR: 'it returns false'. Refute it at one input. -/
def fnProofLengthWrong : ChangeSpec := { name := "fnProofLength", fn := fun _ => fun
  | [d] => { results := [.lit (.bool false)], args := [d] }
  | _ => none }
def FnProofLengthWrongFalsely : Prop := fnProofLengthRow.holds Try.pinned (OpenSpec.ofChange fnProofLengthWrong)

/-- 'laws.FnProofChange': WHATEVER THE INPUT: true; the input reads as it did. -/
def fnProofChangeSpec : ChangeSpec := { name := "fnProofChange", fn := fun _ => fun
  | [d1, d2] => { results := [.lit (.bool true)], args := [d1, d2] }
  | _ => none }
def fnProofChangeRow : OpenClaim := { program := "ytnhpilipkeddiaa", sum := "91126c6e80dfdac8c81a1d0dea95be1485f1d9541f9eef4eb50537b4eb326930", func := "loop.example/feedswarm/laws.FnProofChange", spec := "fnProofChange", recurses := true, plainKeys := false, apart := false }
def FnProofChangeSaid : Prop := fnProofChangeRow.holds Try.pinned (OpenSpec.ofChange fnProofChangeSpec)

/-- ITS FALSE NEIGHBOUR: 'it returns false'. Refute it at one input. -/
def fnProofChangeWrong : ChangeSpec := { name := "fnProofChange", fn := fun _ => fun
  | [d1, d2] => { results := [.lit (.bool false)], args := [d1, d2] }
  | _ => none }
def FnProofChangeWrongFalsely : Prop := fnProofChangeRow.holds Try.pinned (OpenSpec.ofChange fnProofChangeWrong)

/- THE SECOND FORM. 'bulk': how many values and letters a reading holds, each counted each time it is reached (what is shared counts as often as it is met; a slice's spare places count too). A statement '..UptoSaid' is the law's where the arguments, and the package variables that the reading takes, are together of bulk at most 1048576: NARROWER than '..Said'. Prove '..Said' where nothing that the law and all that it calls make is longer than what came in: it says more and counts as full. Else prove '..UptoSaid'. A law counts once. -/
mutual
def uptoBulk {H : Type} : DataW H → Nat
  | .lit (.string bytes) => bytes.length + 1
  | .lit _ => 1
  | .nil => 1
  | .ptr d => uptoBulk d + 1
  | .slice elems spare => uptoBulkAll elems + uptoBulkAll spare + 1
  | .agg parts => uptoBulkAll parts + 1
  | .iface _ d => uptoBulk d + 1
  | .map entries => uptoBulkEntries entries + 1
  | .held _ => 1
def uptoBulkAll {H : Type} : List (DataW H) → Nat
  | [] => 0
  | d :: r => uptoBulk d + uptoBulkAll r
def uptoBulkEntries {H : Type} : List (Lit × DataW H) → Nat
  | [] => 0
  | x :: r => uptoBulkEntry x + uptoBulkEntries r
def uptoBulkEntry {H : Type} : Lit × DataW H → Nat
  | (.string bytes, d) => bytes.length + uptoBulk d + 1
  | (_, d) => uptoBulk d + 1
 end
def uptoSmall : (H : Type) → List (DataW H) → Bool := fun _ ds => decide (uptoBulkAll ds ≤ 1048576)
def OpenSpec.upto (s : _root_.Go.ChangeSpec) : _root_.Go.OpenSpec := { _root_.Go.OpenSpec.ofChange s with cond := some uptoSmall }

/-- 'laws.FnExactTreeCheck', WHERE WHAT IT READS IS OF BULK AT MOST 1048576: true; the input reads as it did. -/
def fnExactTreeCheckUptoRow : OpenClaim := { program := "ytnhpilipkeddiaa", sum := "91126c6e80dfdac8c81a1d0dea95be1485f1d9541f9eef4eb50537b4eb326930", func := "loop.example/feedswarm/laws.FnExactTreeCheck", spec := "fnExactTreeCheck", plainKeys := false, apart := false, narrowed := true }
def FnExactTreeCheckUptoSaid : Prop := fnExactTreeCheckUptoRow.holds Try.pinned (OpenSpec.upto fnExactTreeCheckSpec)

/-- 'laws.FnExactTreeProof', WHERE WHAT IT READS IS OF BULK AT MOST 1048576: true; the input reads as it did. -/
def fnExactTreeProofUptoRow : OpenClaim := { program := "ytnhpilipkeddiaa", sum := "91126c6e80dfdac8c81a1d0dea95be1485f1d9541f9eef4eb50537b4eb326930", func := "loop.example/feedswarm/laws.FnExactTreeProof", spec := "fnExactTreeProof", recurses := true, plainKeys := false, apart := false, narrowed := true }
def FnExactTreeProofUptoSaid : Prop := fnExactTreeProofUptoRow.holds Try.pinned (OpenSpec.upto fnExactTreeProofSpec)

/-- 'laws.FnTreeSmall', WHERE WHAT IT READS IS OF BULK AT MOST 1048576: true; the input reads as it did. -/
def fnTreeSmallUptoRow : OpenClaim := { program := "ytnhpilipkeddiaa", sum := "91126c6e80dfdac8c81a1d0dea95be1485f1d9541f9eef4eb50537b4eb326930", func := "loop.example/feedswarm/laws.FnTreeSmall", spec := "fnTreeSmall", recurses := true, plainKeys := false, apart := false, narrowed := true }
def FnTreeSmallUptoSaid : Prop := fnTreeSmallUptoRow.holds Try.pinned (OpenSpec.upto fnTreeSmallSpec)

/-- 'laws.FnProof', WHERE WHAT IT READS IS OF BULK AT MOST 1048576: true; the input reads as it did. -/
def fnProofUptoRow : OpenClaim := { program := "ytnhpilipkeddiaa", sum := "91126c6e80dfdac8c81a1d0dea95be1485f1d9541f9eef4eb50537b4eb326930", func := "loop.example/feedswarm/laws.FnProof", spec := "fnProof", recurses := true, plainKeys := false, apart := false, narrowed := true }
def FnProofUptoSaid : Prop := fnProofUptoRow.holds Try.pinned (OpenSpec.upto fnProofSpec)

/-- 'laws.FnProofLeaf', WHERE WHAT IT READS IS OF BULK AT MOST 1048576: true; the input reads as it did. -/
def fnProofLeafUptoRow : OpenClaim := { program := "ytnhpilipkeddiaa", sum := "91126c6e80dfdac8c81a1d0dea95be1485f1d9541f9eef4eb50537b4eb326930", func := "loop.example/feedswarm/laws.FnProofLeaf", spec := "fnProofLeaf", recurses := true, plainKeys := false, apart := false, narrowed := true }
def FnProofLeafUptoSaid : Prop := fnProofLeafUptoRow.holds Try.pinned (OpenSpec.upto fnProofLeafSpec)

/-- 'laws.FnProofLength', WHERE WHAT IT READS IS OF BULK AT MOST 1048576: true; the input reads as it did. -/
def fnProofLengthUptoRow : OpenClaim := { program := "ytnhpilipkeddiaa", sum := "91126c6e80dfdac8c81a1d0dea95be1485f1d9541f9eef4eb50537b4eb326930", func := "loop.example/feedswarm/laws.FnProofLength", spec := "fnProofLength", recurses := true, plainKeys := false, apart := false, narrowed := true }
def FnProofLengthUptoSaid : Prop := fnProofLengthUptoRow.holds Try.pinned (OpenSpec.upto fnProofLengthSpec)

/-- 'laws.FnProofChange', WHERE WHAT IT READS IS OF BULK AT MOST 1048576: true; the input reads as it did. -/
def fnProofChangeUptoRow : OpenClaim := { program := "ytnhpilipkeddiaa", sum := "91126c6e80dfdac8c81a1d0dea95be1485f1d9541f9eef4eb50537b4eb326930", func := "loop.example/feedswarm/laws.FnProofChange", spec := "fnProofChange", recurses := true, plainKeys := false, apart := false, narrowed := true }
def FnProofChangeUptoSaid : Prop := fnProofChangeUptoRow.holds Try.pinned (OpenSpec.upto fnProofChangeSpec)

end Rows
end Go.Proofs.Ytnhpilipkeddiaa
