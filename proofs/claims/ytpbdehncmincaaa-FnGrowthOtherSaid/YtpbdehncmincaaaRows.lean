/-
  No cell of these rows narrows 'for every input' (looked for: loops, veiled, ifaces, maps, wideKeys, modest, calm, conditions, laid).
  DERIVED. THE GIVEN ROWS OF THIS SEAT. 9 by the template 'for every input the law returns true; each argument reads behind the call as it read before'; 0 by the template 'total and deterministic' (their statements: YtpbdehncmincaaaTotals.lean).
  GIVEN WITH THE SEED: the statements are not yours to turn. If you find one false, say at which input.
  Laid BY PROGRAM, IN A SANDBOX (cutbox-rows.mjs): the forced cells as the released guide's own fill.sh prints them over the translation 5336d2dfb5c59e45… (all of the seat's roots in one cut). By AI agents, Wed Nov 11 2026. No macro, syntax, notation, axiom, sorry.
-/
import Derived.Test.YtpbdehncmincaaaChecked
import GoSem.Claim
import GoSem.ClaimJoined
import GoSem.ClaimMapViews
import Derived.JoinedTies
import Derived.KernelRfl
namespace Go.Proofs.Ytpbdehncmincaaa
/- THE CELL 'sum', in the pinned program and in every row, IS THE sha256 OF THE DUMP (.gsa) THAT YtpbdehncmincaaaProg.lean LOADS. Nothing in Lean hashes anything: it is a label: what it is worth is what the hold of that sum in a sandbox is worth. -/
noncomputable def Try.pinned : Pinned := { name := "ytpbdehncmincaaa", sum := "5336d2dfb5c59e45628c4f658f7b2dce813811a6ca695c0418e9d237f9e68e78", checked := Try.checked }
namespace Rows
def none {H : Type} : Left H := { results := [], args := [] }

/-- 'laws.FnExactTreeGrowth': WHATEVER THE INPUT: true; the input reads as it did. -/
def fnExactTreeGrowthSpec : ChangeSpec := { name := "fnExactTreeGrowth", fn := fun _ => fun
  | [d1, d2] => { results := [.lit (.bool true)], args := [d1, d2] }
  | _ => none }
def fnExactTreeGrowthRow : OpenClaim := { program := "ytpbdehncmincaaa", sum := "5336d2dfb5c59e45628c4f658f7b2dce813811a6ca695c0418e9d237f9e68e78", func := "loop.example/feedswarm/laws.FnExactTreeGrowth", spec := "fnExactTreeGrowth", recurses := true, plainKeys := false, apart := false }
def FnExactTreeGrowthSaid : Prop := fnExactTreeGrowthRow.holds Try.pinned (OpenSpec.ofChange fnExactTreeGrowthSpec)

/-- ITS FALSE NEIGHBOUR: 'it returns false'. Refute it at one input. -/
def fnExactTreeGrowthWrong : ChangeSpec := { name := "fnExactTreeGrowth", fn := fun _ => fun
  | [d1, d2] => { results := [.lit (.bool false)], args := [d1, d2] }
  | _ => none }
def FnExactTreeGrowthWrongFalsely : Prop := fnExactTreeGrowthRow.holds Try.pinned (OpenSpec.ofChange fnExactTreeGrowthWrong)

/-- 'laws.FnExactTreeGrowthCheck': WHATEVER THE INPUT: true; the input reads as it did. -/
def fnExactTreeGrowthCheckSpec : ChangeSpec := { name := "fnExactTreeGrowthCheck", fn := fun _ => fun
  | [d1, d2, d3, d4, d5] => { results := [.lit (.bool true)], args := [d1, d2, d3, d4, d5] }
  | _ => none }
def fnExactTreeGrowthCheckRow : OpenClaim := { program := "ytpbdehncmincaaa", sum := "5336d2dfb5c59e45628c4f658f7b2dce813811a6ca695c0418e9d237f9e68e78", func := "loop.example/feedswarm/laws.FnExactTreeGrowthCheck", spec := "fnExactTreeGrowthCheck", recurses := true, plainKeys := false, apart := false }
def FnExactTreeGrowthCheckSaid : Prop := fnExactTreeGrowthCheckRow.holds Try.pinned (OpenSpec.ofChange fnExactTreeGrowthCheckSpec)

/-- ITS FALSE NEIGHBOUR: 'it returns false'. Refute it at one input. -/
def fnExactTreeGrowthCheckWrong : ChangeSpec := { name := "fnExactTreeGrowthCheck", fn := fun _ => fun
  | [d1, d2, d3, d4, d5] => { results := [.lit (.bool false)], args := [d1, d2, d3, d4, d5] }
  | _ => none }
def FnExactTreeGrowthCheckWrongFalsely : Prop := fnExactTreeGrowthCheckRow.holds Try.pinned (OpenSpec.ofChange fnExactTreeGrowthCheckWrong)

/-- 'laws.FnGrowthLength': WHATEVER THE INPUT: true; the input reads as it did. -/
def fnGrowthLengthSpec : ChangeSpec := { name := "fnGrowthLength", fn := fun _ => fun
  | [d] => { results := [.lit (.bool true)], args := [d] }
  | _ => none }
def fnGrowthLengthRow : OpenClaim := { program := "ytpbdehncmincaaa", sum := "5336d2dfb5c59e45628c4f658f7b2dce813811a6ca695c0418e9d237f9e68e78", func := "loop.example/feedswarm/laws.FnGrowthLength", spec := "fnGrowthLength", recurses := true, plainKeys := false, apart := false }
def FnGrowthLengthSaid : Prop := fnGrowthLengthRow.holds Try.pinned (OpenSpec.ofChange fnGrowthLengthSpec)

/-- ITS FALSE NEIGHBOUR: 'it returns false'. Refute it at one input. -/
def fnGrowthLengthWrong : ChangeSpec := { name := "fnGrowthLength", fn := fun _ => fun
  | [d] => { results := [.lit (.bool false)], args := [d] }
  | _ => none }
def FnGrowthLengthWrongFalsely : Prop := fnGrowthLengthRow.holds Try.pinned (OpenSpec.ofChange fnGrowthLengthWrong)

/-- 'laws.FnGrowthPeaks': WHATEVER THE INPUT: true; the input reads as it did. -/
def fnGrowthPeaksSpec : ChangeSpec := { name := "fnGrowthPeaks", fn := fun _ => fun
  | [d] => { results := [.lit (.bool true)], args := [d] }
  | _ => none }
def fnGrowthPeaksRow : OpenClaim := { program := "ytpbdehncmincaaa", sum := "5336d2dfb5c59e45628c4f658f7b2dce813811a6ca695c0418e9d237f9e68e78", func := "loop.example/feedswarm/laws.FnGrowthPeaks", spec := "fnGrowthPeaks", recurses := true, plainKeys := false, apart := false }
def FnGrowthPeaksSaid : Prop := fnGrowthPeaksRow.holds Try.pinned (OpenSpec.ofChange fnGrowthPeaksSpec)

/-- ITS FALSE NEIGHBOUR: 'it returns false'. Refute it at one input. -/
def fnGrowthPeaksWrong : ChangeSpec := { name := "fnGrowthPeaks", fn := fun _ => fun
  | [d] => { results := [.lit (.bool false)], args := [d] }
  | _ => none }
def FnGrowthPeaksWrongFalsely : Prop := fnGrowthPeaksRow.holds Try.pinned (OpenSpec.ofChange fnGrowthPeaksWrong)

/-- 'laws.FnGrowthNone': WHATEVER THE INPUT: true; the input reads as it did. -/
def fnGrowthNoneSpec : ChangeSpec := { name := "fnGrowthNone", fn := fun _ => fun
  | [d1, d2] => { results := [.lit (.bool true)], args := [d1, d2] }
  | _ => none }
def fnGrowthNoneRow : OpenClaim := { program := "ytpbdehncmincaaa", sum := "5336d2dfb5c59e45628c4f658f7b2dce813811a6ca695c0418e9d237f9e68e78", func := "loop.example/feedswarm/laws.FnGrowthNone", spec := "fnGrowthNone", recurses := true, plainKeys := false, apart := false }
def FnGrowthNoneSaid : Prop := fnGrowthNoneRow.holds Try.pinned (OpenSpec.ofChange fnGrowthNoneSpec)

/-- ITS FALSE NEIGHBOUR: 'it returns false'. Refute it at one input. -/
def fnGrowthNoneWrong : ChangeSpec := { name := "fnGrowthNone", fn := fun _ => fun
  | [d1, d2] => { results := [.lit (.bool false)], args := [d1, d2] }
  | _ => none }
def FnGrowthNoneWrongFalsely : Prop := fnGrowthNoneRow.holds Try.pinned (OpenSpec.ofChange fnGrowthNoneWrong)

/-- 'laws.FnGrowth': WHATEVER THE INPUT: true; the input reads as it did. -/
def fnGrowthSpec : ChangeSpec := { name := "fnGrowth", fn := fun _ => fun
  | [d] => { results := [.lit (.bool true)], args := [d] }
  | _ => none }
def fnGrowthRow : OpenClaim := { program := "ytpbdehncmincaaa", sum := "5336d2dfb5c59e45628c4f658f7b2dce813811a6ca695c0418e9d237f9e68e78", func := "loop.example/feedswarm/laws.FnGrowth", spec := "fnGrowth", recurses := true, plainKeys := false, apart := false }
def FnGrowthSaid : Prop := fnGrowthRow.holds Try.pinned (OpenSpec.ofChange fnGrowthSpec)

/-- ITS FALSE NEIGHBOUR: 'it returns false'. Refute it at one input. -/
def fnGrowthWrong : ChangeSpec := { name := "fnGrowth", fn := fun _ => fun
  | [d] => { results := [.lit (.bool false)], args := [d] }
  | _ => none }
def FnGrowthWrongFalsely : Prop := fnGrowthRow.holds Try.pinned (OpenSpec.ofChange fnGrowthWrong)

/-- 'laws.FnGrowthSteps': WHATEVER THE INPUT: true; the input reads as it did. -/
def fnGrowthStepsSpec : ChangeSpec := { name := "fnGrowthSteps", fn := fun _ => fun
  | [d1, d2] => { results := [.lit (.bool true)], args := [d1, d2] }
  | _ => none }
def fnGrowthStepsRow : OpenClaim := { program := "ytpbdehncmincaaa", sum := "5336d2dfb5c59e45628c4f658f7b2dce813811a6ca695c0418e9d237f9e68e78", func := "loop.example/feedswarm/laws.FnGrowthSteps", spec := "fnGrowthSteps", recurses := true, plainKeys := false, apart := false }
def FnGrowthStepsSaid : Prop := fnGrowthStepsRow.holds Try.pinned (OpenSpec.ofChange fnGrowthStepsSpec)

/-- ITS FALSE NEIGHBOUR: 'it returns false'. Refute it at one input. -/
def fnGrowthStepsWrong : ChangeSpec := { name := "fnGrowthSteps", fn := fun _ => fun
  | [d1, d2] => { results := [.lit (.bool false)], args := [d1, d2] }
  | _ => none }
def FnGrowthStepsWrongFalsely : Prop := fnGrowthStepsRow.holds Try.pinned (OpenSpec.ofChange fnGrowthStepsWrong)

/-- 'laws.FnGrowthChange': WHATEVER THE INPUT: true; the input reads as it did. -/
def fnGrowthChangeSpec : ChangeSpec := { name := "fnGrowthChange", fn := fun _ => fun
  | [d1, d2] => { results := [.lit (.bool true)], args := [d1, d2] }
  | _ => none }
def fnGrowthChangeRow : OpenClaim := { program := "ytpbdehncmincaaa", sum := "5336d2dfb5c59e45628c4f658f7b2dce813811a6ca695c0418e9d237f9e68e78", func := "loop.example/feedswarm/laws.FnGrowthChange", spec := "fnGrowthChange", recurses := true, plainKeys := false, apart := false }
def FnGrowthChangeSaid : Prop := fnGrowthChangeRow.holds Try.pinned (OpenSpec.ofChange fnGrowthChangeSpec)

/-- ITS FALSE NEIGHBOUR: 'it returns false'. Refute it at one input. -/
def fnGrowthChangeWrong : ChangeSpec := { name := "fnGrowthChange", fn := fun _ => fun
  | [d1, d2] => { results := [.lit (.bool false)], args := [d1, d2] }
  | _ => none }
def FnGrowthChangeWrongFalsely : Prop := fnGrowthChangeRow.holds Try.pinned (OpenSpec.ofChange fnGrowthChangeWrong)

/-- 'laws.FnGrowthOther': WHATEVER THE INPUT: true; the input reads as it did. -/
def fnGrowthOtherSpec : ChangeSpec := { name := "fnGrowthOther", fn := fun _ => fun
  | [d1, d2] => { results := [.lit (.bool true)], args := [d1, d2] }
  | _ => none }
def fnGrowthOtherRow : OpenClaim := { program := "ytpbdehncmincaaa", sum := "5336d2dfb5c59e45628c4f658f7b2dce813811a6ca695c0418e9d237f9e68e78", func := "loop.example/feedswarm/laws.FnGrowthOther", spec := "fnGrowthOther", recurses := true, plainKeys := false, apart := false }
def FnGrowthOtherSaid : Prop := fnGrowthOtherRow.holds Try.pinned (OpenSpec.ofChange fnGrowthOtherSpec)

/-- ITS FALSE NEIGHBOUR: 'it returns false'. Refute it at one input. -/
def fnGrowthOtherWrong : ChangeSpec := { name := "fnGrowthOther", fn := fun _ => fun
  | [d1, d2] => { results := [.lit (.bool false)], args := [d1, d2] }
  | _ => none }
def FnGrowthOtherWrongFalsely : Prop := fnGrowthOtherRow.holds Try.pinned (OpenSpec.ofChange fnGrowthOtherWrong)

/- THE SECOND FORM. 'bulk': how many values and letters a reading holds, each counted each time it is reached (what is shared counts as often as it is met; a slice's spare places count too). A statement '..UptoSaid' is the law's where the arguments, and the package variables that the reading takes, are together of bulk at most 1048576: NARROWER than '..Said'. Prove '..Said' where nothing that the law and all that it calls make is longer than what came in: it says more and counts as full. Else prove '..UptoSaid'. A law counts once. -/
mutual
def uptoBulk {H : Type} : DataW H → Nat
  | .lit (.string bytes) => bytes.length + 1
  | .lit _ => 1
  | .nil => 1
  | .ptr d => uptoBulk d + 1
  | .slice elems spare => uptoBulkAll elems + uptoBulkAll spare + 1
  | .agg parts => uptoBulkAll parts + 1
  | .iface _ d => uptoBulk d + 1
  | .map entries => uptoBulkEntries entries + 1
  | .held _ => 1
def uptoBulkAll {H : Type} : List (DataW H) → Nat
  | [] => 0
  | d :: r => uptoBulk d + uptoBulkAll r
def uptoBulkEntries {H : Type} : List (Lit × DataW H) → Nat
  | [] => 0
  | x :: r => uptoBulkEntry x + uptoBulkEntries r
def uptoBulkEntry {H : Type} : Lit × DataW H → Nat
  | (.string bytes, d) => bytes.length + uptoBulk d + 1
  | (_, d) => uptoBulk d + 1
 end
def uptoSmall : (H : Type) → List (DataW H) → Bool := fun _ ds => decide (uptoBulkAll ds ≤ 1048576)
def OpenSpec.upto (s : _root_.Go.ChangeSpec) : _root_.Go.OpenSpec := { _root_.Go.OpenSpec.ofChange s with cond := some uptoSmall }

/-- 'laws.FnExactTreeGrowth', WHERE WHAT IT READS IS OF BULK AT MOST 1048576: true; the input reads as it did. -/
def fnExactTreeGrowthUptoRow : OpenClaim := { program := "ytpbdehncmincaaa", sum := "5336d2dfb5c59e45628c4f658f7b2dce813811a6ca695c0418e9d237f9e68e78", func := "loop.example/feedswarm/laws.FnExactTreeGrowth", spec := "fnExactTreeGrowth", recurses := true, plainKeys := false, apart := false, narrowed := true }
def FnExactTreeGrowthUptoSaid : Prop := fnExactTreeGrowthUptoRow.holds Try.pinned (OpenSpec.upto fnExactTreeGrowthSpec)

/-- 'laws.FnExactTreeGrowthCheck', WHERE WHAT IT READS IS OF BULK AT MOST 1048576: true; the input reads as it did. -/
def fnExactTreeGrowthCheckUptoRow : OpenClaim := { program := "ytpbdehncmincaaa", sum := "5336d2dfb5c59e45628c4f658f7b2dce813811a6ca695c0418e9d237f9e68e78", func := "loop.example/feedswarm/laws.FnExactTreeGrowthCheck", spec := "fnExactTreeGrowthCheck", recurses := true, plainKeys := false, apart := false, narrowed := true }
def FnExactTreeGrowthCheckUptoSaid : Prop := fnExactTreeGrowthCheckUptoRow.holds Try.pinned (OpenSpec.upto fnExactTreeGrowthCheckSpec)

/-- 'laws.FnGrowthLength', WHERE WHAT IT READS IS OF BULK AT MOST 1048576: true; the input reads as it did. -/
def fnGrowthLengthUptoRow : OpenClaim := { program := "ytpbdehncmincaaa", sum := "5336d2dfb5c59e45628c4f658f7b2dce813811a6ca695c0418e9d237f9e68e78", func := "loop.example/feedswarm/laws.FnGrowthLength", spec := "fnGrowthLength", recurses := true, plainKeys := false, apart := false, narrowed := true }
def FnGrowthLengthUptoSaid : Prop := fnGrowthLengthUptoRow.holds Try.pinned (OpenSpec.upto fnGrowthLengthSpec)

/-- 'laws.FnGrowthPeaks', WHERE WHAT IT READS IS OF BULK AT MOST 1048576: true; the input reads as it did. -/
def fnGrowthPeaksUptoRow : OpenClaim := { program := "ytpbdehncmincaaa", sum := "5336d2dfb5c59e45628c4f658f7b2dce813811a6ca695c0418e9d237f9e68e78", func := "loop.example/feedswarm/laws.FnGrowthPeaks", spec := "fnGrowthPeaks", recurses := true, plainKeys := false, apart := false, narrowed := true }
def FnGrowthPeaksUptoSaid : Prop := fnGrowthPeaksUptoRow.holds Try.pinned (OpenSpec.upto fnGrowthPeaksSpec)

/-- 'laws.FnGrowthNone', WHERE WHAT IT READS IS OF BULK AT MOST 1048576: true; the input reads as it did. -/
def fnGrowthNoneUptoRow : OpenClaim := { program := "ytpbdehncmincaaa", sum := "5336d2dfb5c59e45628c4f658f7b2dce813811a6ca695c0418e9d237f9e68e78", func := "loop.example/feedswarm/laws.FnGrowthNone", spec := "fnGrowthNone", recurses := true, plainKeys := false, apart := false, narrowed := true }
def FnGrowthNoneUptoSaid : Prop := fnGrowthNoneUptoRow.holds Try.pinned (OpenSpec.upto fnGrowthNoneSpec)

/-- 'laws.FnGrowth', WHERE WHAT IT READS IS OF BULK AT MOST 1048576: true; the input reads as it did. -/
def fnGrowthUptoRow : OpenClaim := { program := "ytpbdehncmincaaa", sum := "5336d2dfb5c59e45628c4f658f7b2dce813811a6ca695c0418e9d237f9e68e78", func := "loop.example/feedswarm/laws.FnGrowth", spec := "fnGrowth", recurses := true, plainKeys := false, apart := false, narrowed := true }
def FnGrowthUptoSaid : Prop := fnGrowthUptoRow.holds Try.pinned (OpenSpec.upto fnGrowthSpec)

/-- 'laws.FnGrowthSteps', WHERE WHAT IT READS IS OF BULK AT MOST 1048576: true; the input reads as it did. -/
def fnGrowthStepsUptoRow : OpenClaim := { program := "ytpbdehncmincaaa", sum := "5336d2dfb5c59e45628c4f658f7b2dce813811a6ca695c0418e9d237f9e68e78", func := "loop.example/feedswarm/laws.FnGrowthSteps", spec := "fnGrowthSteps", recurses := true, plainKeys := false, apart := false, narrowed := true }
def FnGrowthStepsUptoSaid : Prop := fnGrowthStepsUptoRow.holds Try.pinned (OpenSpec.upto fnGrowthStepsSpec)

/-- 'laws.FnGrowthChange', WHERE WHAT IT READS IS OF BULK AT MOST 1048576: true; the input reads as it did. -/
def fnGrowthChangeUptoRow : OpenClaim := { program := "ytpbdehncmincaaa", sum := "5336d2dfb5c59e45628c4f658f7b2dce813811a6ca695c0418e9d237f9e68e78", func := "loop.example/feedswarm/laws.FnGrowthChange", spec := "fnGrowthChange", recurses := true, plainKeys := false, apart := false, narrowed := true }
def FnGrowthChangeUptoSaid : Prop := fnGrowthChangeUptoRow.holds Try.pinned (OpenSpec.upto fnGrowthChangeSpec)

/-- 'laws.FnGrowthOther', WHERE WHAT IT READS IS OF BULK AT MOST 1048576: true; the input reads as it did. -/
def fnGrowthOtherUptoRow : OpenClaim := { program := "ytpbdehncmincaaa", sum := "5336d2dfb5c59e45628c4f658f7b2dce813811a6ca695c0418e9d237f9e68e78", func := "loop.example/feedswarm/laws.FnGrowthOther", spec := "fnGrowthOther", recurses := true, plainKeys := false, apart := false, narrowed := true }
def FnGrowthOtherUptoSaid : Prop := fnGrowthOtherUptoRow.holds Try.pinned (OpenSpec.upto fnGrowthOtherSpec)

end Rows
end Go.Proofs.Ytpbdehncmincaaa
