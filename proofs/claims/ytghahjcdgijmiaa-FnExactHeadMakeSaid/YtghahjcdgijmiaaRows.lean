/-
  No cell of these rows narrows 'for every input' (looked for: loops, veiled, ifaces, maps, wideKeys, modest, calm, conditions, laid).
  DERIVED. THE GIVEN ROWS OF THIS SEAT. 7 by the template 'for every input the law returns true; each argument reads behind the call as it read before'; 0 by the template 'total and deterministic' (their statements: YtghahjcdgijmiaaTotals.lean).
  GIVEN WITH THE SEED: the statements are not yours to turn. If you find one false, say at which input.
  Laid BY PROGRAM, IN A SANDBOX (cutbox-rows.mjs): the forced cells as the released guide's own fill.sh prints them over the translation 00cff5fd2ce2730c… (all of the seat's roots in one cut). By AI agents, Wed Nov 11 2026. No macro, syntax, notation, axiom, sorry.
-/
import Derived.Test.YtghahjcdgijmiaaChecked
import GoSem.Claim
import GoSem.ClaimJoined
import GoSem.ClaimMapViews
import Derived.JoinedTies
import Derived.KernelRfl
namespace Go.Proofs.Ytghahjcdgijmiaa
/- THE CELL 'sum', in the pinned program and in every row, IS THE sha256 OF THE DUMP (.gsa) THAT YtghahjcdgijmiaaProg.lean LOADS. Nothing in Lean hashes anything: it is a label: what it is worth is what the hold of that sum in a sandbox is worth. -/
noncomputable def Try.pinned : Pinned := { name := "ytghahjcdgijmiaa", sum := "00cff5fd2ce2730c8d6e28d8593b5f74eb4133e68ab1fbde5ad842a09eb52002", checked := Try.checked }
namespace Rows
def none {H : Type} : Left H := { results := [], args := [] }

/-- 'laws.FnHeadEmpty': WHATEVER THE INPUT: true; the input reads as it did. -/
def fnHeadEmptySpec : ChangeSpec := { name := "fnHeadEmpty", fn := fun _ => fun
  | [d] => { results := [.lit (.bool true)], args := [d] }
  | _ => none }
def fnHeadEmptyRow : OpenClaim := { program := "ytghahjcdgijmiaa", sum := "00cff5fd2ce2730c8d6e28d8593b5f74eb4133e68ab1fbde5ad842a09eb52002", func := "loop.example/feedswarm/laws.FnHeadEmpty", spec := "fnHeadEmpty", recurses := true, plainKeys := false, apart := false }
def FnHeadEmptySaid : Prop := fnHeadEmptyRow.holds Try.pinned (OpenSpec.ofChange fnHeadEmptySpec)

/-- ITS FALSE NEIGHBOUR: 'it returns false'. Refute it at one input. -/
def fnHeadEmptyWrong : ChangeSpec := { name := "fnHeadEmpty", fn := fun _ => fun
  | [d] => { results := [.lit (.bool false)], args := [d] }
  | _ => none }
def FnHeadEmptyWrongFalsely : Prop := fnHeadEmptyRow.holds Try.pinned (OpenSpec.ofChange fnHeadEmptyWrong)

/-- 'laws.FnHeadLength': WHATEVER THE INPUT: true; the input reads as it did. -/
def fnHeadLengthSpec : ChangeSpec := { name := "fnHeadLength", fn := fun _ => fun
  | [d1, d2] => { results := [.lit (.bool true)], args := [d1, d2] }
  | _ => none }
def fnHeadLengthRow : OpenClaim := { program := "ytghahjcdgijmiaa", sum := "00cff5fd2ce2730c8d6e28d8593b5f74eb4133e68ab1fbde5ad842a09eb52002", func := "loop.example/feedswarm/laws.FnHeadLength", spec := "fnHeadLength", recurses := true, plainKeys := false, apart := false }
def FnHeadLengthSaid : Prop := fnHeadLengthRow.holds Try.pinned (OpenSpec.ofChange fnHeadLengthSpec)

/-- ITS FALSE NEIGHBOUR: 'it returns false'. Refute it at one input. -/
def fnHeadLengthWrong : ChangeSpec := { name := "fnHeadLength", fn := fun _ => fun
  | [d1, d2] => { results := [.lit (.bool false)], args := [d1, d2] }
  | _ => none }
def FnHeadLengthWrongFalsely : Prop := fnHeadLengthRow.holds Try.pinned (OpenSpec.ofChange fnHeadLengthWrong)

/-- 'laws.FnHeadDigest': WHATEVER THE INPUT: true; the input reads as it did. -/
def fnHeadDigestSpec : ChangeSpec := { name := "fnHeadDigest", fn := fun _ => fun
  | [d1, d2] => { results := [.lit (.bool true)], args := [d1, d2] }
  | _ => none }
def fnHeadDigestRow : OpenClaim := { program := "ytghahjcdgijmiaa", sum := "00cff5fd2ce2730c8d6e28d8593b5f74eb4133e68ab1fbde5ad842a09eb52002", func := "loop.example/feedswarm/laws.FnHeadDigest", spec := "fnHeadDigest", recurses := true, plainKeys := false, apart := false }
def FnHeadDigestSaid : Prop := fnHeadDigestRow.holds Try.pinned (OpenSpec.ofChange fnHeadDigestSpec)

/-- ITS FALSE NEIGHBOUR: 'it returns false'. Refute it at one input. -/
def fnHeadDigestWrong : ChangeSpec := { name := "fnHeadDigest", fn := fun _ => fun
  | [d1, d2] => { results := [.lit (.bool false)], args := [d1, d2] }
  | _ => none }
def FnHeadDigestWrongFalsely : Prop := fnHeadDigestRow.holds Try.pinned (OpenSpec.ofChange fnHeadDigestWrong)

/-- 'laws.FnExactHeadMake': WHATEVER THE INPUT: true; the input reads as it did. -/
def fnExactHeadMakeSpec : ChangeSpec := { name := "fnExactHeadMake", fn := fun _ => fun
  | [d1, d2] => { results := [.lit (.bool true)], args := [d1, d2] }
  | _ => none }
def fnExactHeadMakeRow : OpenClaim := { program := "ytghahjcdgijmiaa", sum := "00cff5fd2ce2730c8d6e28d8593b5f74eb4133e68ab1fbde5ad842a09eb52002", func := "loop.example/feedswarm/laws.FnExactHeadMake", spec := "fnExactHeadMake", recurses := true, plainKeys := false, apart := false }
def FnExactHeadMakeSaid : Prop := fnExactHeadMakeRow.holds Try.pinned (OpenSpec.ofChange fnExactHeadMakeSpec)

/-- ITS FALSE NEIGHBOUR: 'it returns false'. Refute it at one input. -/
def fnExactHeadMakeWrong : ChangeSpec := { name := "fnExactHeadMake", fn := fun _ => fun
  | [d1, d2] => { results := [.lit (.bool false)], args := [d1, d2] }
  | _ => none }
def FnExactHeadMakeWrongFalsely : Prop := fnExactHeadMakeRow.holds Try.pinned (OpenSpec.ofChange fnExactHeadMakeWrong)

/-- 'laws.FnHeadChange': WHATEVER THE INPUT: true; the input reads as it did. -/
def fnHeadChangeSpec : ChangeSpec := { name := "fnHeadChange", fn := fun _ => fun
  | [d1, d2] => { results := [.lit (.bool true)], args := [d1, d2] }
  | _ => none }
def fnHeadChangeRow : OpenClaim := { program := "ytghahjcdgijmiaa", sum := "00cff5fd2ce2730c8d6e28d8593b5f74eb4133e68ab1fbde5ad842a09eb52002", func := "loop.example/feedswarm/laws.FnHeadChange", spec := "fnHeadChange", recurses := true, plainKeys := false, apart := false }
def FnHeadChangeSaid : Prop := fnHeadChangeRow.holds Try.pinned (OpenSpec.ofChange fnHeadChangeSpec)

/-- ITS FALSE NEIGHBOUR: 'it returns false'. Refute it at one input. -/
def fnHeadChangeWrong : ChangeSpec := { name := "fnHeadChange", fn := fun _ => fun
  | [d1, d2] => { results := [.lit (.bool false)], args := [d1, d2] }
  | _ => none }
def FnHeadChangeWrongFalsely : Prop := fnHeadChangeRow.holds Try.pinned (OpenSpec.ofChange fnHeadChangeWrong)

/-- 'laws.FnHead': WHATEVER THE INPUT: true; the input reads as it did. -/
def fnHeadSpec : ChangeSpec := { name := "fnHead", fn := fun _ => fun
  | [d] => { results := [.lit (.bool true)], args := [d] }
  | _ => none }
def fnHeadRow : OpenClaim := { program := "ytghahjcdgijmiaa", sum := "00cff5fd2ce2730c8d6e28d8593b5f74eb4133e68ab1fbde5ad842a09eb52002", func := "loop.example/feedswarm/laws.FnHead", spec := "fnHead", recurses := true, plainKeys := false, apart := false }
def FnHeadSaid : Prop := fnHeadRow.holds Try.pinned (OpenSpec.ofChange fnHeadSpec)

/-- ITS FALSE NEIGHBOUR: 'it returns false'. Refute it at one input. -/
def fnHeadWrong : ChangeSpec := { name := "fnHead", fn := fun _ => fun
  | [d] => { results := [.lit (.bool false)], args := [d] }
  | _ => none }
def FnHeadWrongFalsely : Prop := fnHeadRow.holds Try.pinned (OpenSpec.ofChange fnHeadWrong)

/-- 'laws.FnHeadKey': WHATEVER THE INPUT: true; the input reads as it did. -/
def fnHeadKeySpec : ChangeSpec := { name := "fnHeadKey", fn := fun _ => fun
  | [d1, d2] => { results := [.lit (.bool true)], args := [d1, d2] }
  | _ => none }
def fnHeadKeyRow : OpenClaim := { program := "ytghahjcdgijmiaa", sum := "00cff5fd2ce2730c8d6e28d8593b5f74eb4133e68ab1fbde5ad842a09eb52002", func := "loop.example/feedswarm/laws.FnHeadKey", spec := "fnHeadKey", recurses := true, plainKeys := false, apart := false }
def FnHeadKeySaid : Prop := fnHeadKeyRow.holds Try.pinned (OpenSpec.ofChange fnHeadKeySpec)

/-- ITS FALSE NEIGHBOUR: 'it returns false'. Refute it at one input. -/
def fnHeadKeyWrong : ChangeSpec := { name := "fnHeadKey", fn := fun _ => fun
  | [d1, d2] => { results := [.lit (.bool false)], args := [d1, d2] }
  | _ => none }
def FnHeadKeyWrongFalsely : Prop := fnHeadKeyRow.holds Try.pinned (OpenSpec.ofChange fnHeadKeyWrong)

/- THE SECOND FORM. 'bulk': how many values and letters a reading holds, each counted each time it is reached (what is shared counts as often as it is met; a slice's spare places count too). A statement '..UptoSaid' is the law's where the arguments, and the package variables that the reading takes, are together of bulk at most 1048576: NARROWER than '..Said'. Prove '..Said' where nothing that the law and all that it calls make is longer than what came in: it says more and counts as full. Else prove '..UptoSaid'. A law counts once. -/
mutual
def uptoBulk {H : Type} : DataW H → Nat
  | .lit (.string bytes) => bytes.length + 1
  | .lit _ => 1
  | .nil => 1
  | .ptr d => uptoBulk d + 1
  | .slice elems spare => uptoBulkAll elems + uptoBulkAll spare + 1
  | .agg parts => uptoBulkAll parts + 1
  | .iface _ d => uptoBulk d + 1
  | .map entries => uptoBulkEntries entries + 1
  | .held _ => 1
def uptoBulkAll {H : Type} : List (DataW H) → Nat
  | [] => 0
  | d :: r => uptoBulk d + uptoBulkAll r
def uptoBulkEntries {H : Type} : List (Lit × DataW H) → Nat
  | [] => 0
  | x :: r => uptoBulkEntry x + uptoBulkEntries r
def uptoBulkEntry {H : Type} : Lit × DataW H → Nat
  | (.string bytes, d) => bytes.length + uptoBulk d + 1
  | (_, d) => uptoBulk d + 1
 end
def uptoSmall : (H : Type) → List (DataW H) → Bool := fun _ ds => decide (uptoBulkAll ds ≤ 1048576)
def OpenSpec.upto (s : _root_.Go.ChangeSpec) : _root_.Go.OpenSpec := { _root_.Go.OpenSpec.ofChange s with cond := some uptoSmall }

/-- 'laws.FnHeadEmpty', WHERE WHAT IT READS IS OF BULK AT MOST 1048576: true; the input reads as it did. -/
def fnHeadEmptyUptoRow : OpenClaim := { program := "ytghahjcdgijmiaa", sum := "00cff5fd2ce2730c8d6e28d8593b5f74eb4133e68ab1fbde5ad842a09eb52002", func := "loop.example/feedswarm/laws.FnHeadEmpty", spec := "fnHeadEmpty", recurses := true, plainKeys := false, apart := false, narrowed := true }
def FnHeadEmptyUptoSaid : Prop := fnHeadEmptyUptoRow.holds Try.pinned (OpenSpec.upto fnHeadEmptySpec)

/-- 'laws.FnHeadLength', WHERE WHAT IT READS IS OF BULK AT MOST 1048576: true; the input reads as it did. -/
def fnHeadLengthUptoRow : OpenClaim := { program := "ytghahjcdgijmiaa", sum := "00cff5fd2ce2730c8d6e28d8593b5f74eb4133e68ab1fbde5ad842a09eb52002", func := "loop.example/feedswarm/laws.FnHeadLength", spec := "fnHeadLength", recurses := true, plainKeys := false, apart := false, narrowed := true }
def FnHeadLengthUptoSaid : Prop := fnHeadLengthUptoRow.holds Try.pinned (OpenSpec.upto fnHeadLengthSpec)

/-- 'laws.FnHeadDigest', WHERE WHAT IT READS IS OF BULK AT MOST 1048576: true; the input reads as it did. -/
def fnHeadDigestUptoRow : OpenClaim := { program := "ytghahjcdgijmiaa", sum := "00cff5fd2ce2730c8d6e28d8593b5f74eb4133e68ab1fbde5ad842a09eb52002", func := "loop.example/feedswarm/laws.FnHeadDigest", spec := "fnHeadDigest", recurses := true, plainKeys := false, apart := false, narrowed := true }
def FnHeadDigestUptoSaid : Prop := fnHeadDigestUptoRow.holds Try.pinned (OpenSpec.upto fnHeadDigestSpec)

/-- 'laws.FnExactHeadMake', WHERE WHAT IT READS IS OF BULK AT MOST 1048576: true; the input reads as it did. -/
def fnExactHeadMakeUptoRow : OpenClaim := { program := "ytghahjcdgijmiaa", sum := "00cff5fd2ce2730c8d6e28d8593b5f74eb4133e68ab1fbde5ad842a09eb52002", func := "loop.example/feedswarm/laws.FnExactHeadMake", spec := "fnExactHeadMake", recurses := true, plainKeys := false, apart := false, narrowed := true }
def FnExactHeadMakeUptoSaid : Prop := fnExactHeadMakeUptoRow.holds Try.pinned (OpenSpec.upto fnExactHeadMakeSpec)

/-- 'laws.FnHeadChange', WHERE WHAT IT READS IS OF BULK AT MOST 1048576: true; the input reads as it did. -/
def fnHeadChangeUptoRow : OpenClaim := { program := "ytghahjcdgijmiaa", sum := "00cff5fd2ce2730c8d6e28d8593b5f74eb4133e68ab1fbde5ad842a09eb52002", func := "loop.example/feedswarm/laws.FnHeadChange", spec := "fnHeadChange", recurses := true, plainKeys := false, apart := false, narrowed := true }
def FnHeadChangeUptoSaid : Prop := fnHeadChangeUptoRow.holds Try.pinned (OpenSpec.upto fnHeadChangeSpec)

/-- 'laws.FnHead', WHERE WHAT IT READS IS OF BULK AT MOST 1048576: true; the input reads as it did. -/
def fnHeadUptoRow : OpenClaim := { program := "ytghahjcdgijmiaa", sum := "00cff5fd2ce2730c8d6e28d8593b5f74eb4133e68ab1fbde5ad842a09eb52002", func := "loop.example/feedswarm/laws.FnHead", spec := "fnHead", recurses := true, plainKeys := false, apart := false, narrowed := true }
def FnHeadUptoSaid : Prop := fnHeadUptoRow.holds Try.pinned (OpenSpec.upto fnHeadSpec)

/-- 'laws.FnHeadKey', WHERE WHAT IT READS IS OF BULK AT MOST 1048576: true; the input reads as it did. -/
def fnHeadKeyUptoRow : OpenClaim := { program := "ytghahjcdgijmiaa", sum := "00cff5fd2ce2730c8d6e28d8593b5f74eb4133e68ab1fbde5ad842a09eb52002", func := "loop.example/feedswarm/laws.FnHeadKey", spec := "fnHeadKey", recurses := true, plainKeys := false, apart := false, narrowed := true }
def FnHeadKeyUptoSaid : Prop := fnHeadKeyUptoRow.holds Try.pinned (OpenSpec.upto fnHeadKeySpec)

end Rows
end Go.Proofs.Ytghahjcdgijmiaa
