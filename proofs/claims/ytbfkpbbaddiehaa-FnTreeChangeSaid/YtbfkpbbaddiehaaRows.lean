/-
  No cell of these rows narrows 'for every input' (looked for: loops, veiled, ifaces, maps, wideKeys, modest, calm, conditions, laid).
  DERIVED. THE GIVEN ROWS OF THIS SEAT. 9 by the template 'for every input the law returns true; each argument reads behind the call as it read before'; 0 by the template 'total and deterministic' (their statements: YtbfkpbbaddiehaaTotals.lean).
  GIVEN WITH THE SEED: the statements are not yours to turn. If you find one false, say at which input.
  Laid BY PROGRAM, IN A SANDBOX (cutbox-rows.mjs): the forced cells as the released guide's own fill.sh prints them over the translation ffb1ad1d53483677… (all of the seat's roots in one cut). By AI agents, Wed Nov 11 2026. No macro, syntax, notation, axiom, sorry.
-/
import Derived.Test.YtbfkpbbaddiehaaChecked
import GoSem.Claim
import GoSem.ClaimJoined
import GoSem.ClaimMapViews
import Derived.JoinedTies
import Derived.KernelRfl
namespace Go.Proofs.Ytbfkpbbaddiehaa
/- THE CELL 'sum', in the pinned program and in every row, IS THE sha256 OF THE DUMP (.gsa) THAT YtbfkpbbaddiehaaProg.lean LOADS. Nothing in Lean hashes anything: it is a label: what it is worth is what the hold of that sum in a sandbox is worth. -/
noncomputable def Try.pinned : Pinned := { name := "ytbfkpbbaddiehaa", sum := "ffb1ad1d53483677d296b4abd309d11101f593eb926ce929e8806dd8c583811a", checked := Try.checked }
namespace Rows
def none {H : Type} : Left H := { results := [], args := [] }

/-- 'laws.FnExactTreePeaks': WHATEVER THE INPUT: true; the input reads as it did. -/
def fnExactTreePeaksSpec : ChangeSpec := { name := "fnExactTreePeaks", fn := fun _ => fun
  | [d] => { results := [.lit (.bool true)], args := [d] }
  | _ => none }
def fnExactTreePeaksRow : OpenClaim := { program := "ytbfkpbbaddiehaa", sum := "ffb1ad1d53483677d296b4abd309d11101f593eb926ce929e8806dd8c583811a", func := "loop.example/feedswarm/laws.FnExactTreePeaks", spec := "fnExactTreePeaks", recurses := true, plainKeys := false, apart := false }
def FnExactTreePeaksSaid : Prop := fnExactTreePeaksRow.holds Try.pinned (OpenSpec.ofChange fnExactTreePeaksSpec)

/-- ITS FALSE NEIGHBOUR: 'it returns false'. Refute it at one input. -/
def fnExactTreePeaksWrong : ChangeSpec := { name := "fnExactTreePeaks", fn := fun _ => fun
  | [d] => { results := [.lit (.bool false)], args := [d] }
  | _ => none }
def FnExactTreePeaksWrongFalsely : Prop := fnExactTreePeaksRow.holds Try.pinned (OpenSpec.ofChange fnExactTreePeaksWrong)

/-- 'laws.FnExactTreeDigest': WHATEVER THE INPUT: true; the input reads as it did. -/
def fnExactTreeDigestSpec : ChangeSpec := { name := "fnExactTreeDigest", fn := fun _ => fun
  | [d] => { results := [.lit (.bool true)], args := [d] }
  | _ => none }
def fnExactTreeDigestRow : OpenClaim := { program := "ytbfkpbbaddiehaa", sum := "ffb1ad1d53483677d296b4abd309d11101f593eb926ce929e8806dd8c583811a", func := "loop.example/feedswarm/laws.FnExactTreeDigest", spec := "fnExactTreeDigest", recurses := true, plainKeys := false, apart := false }
def FnExactTreeDigestSaid : Prop := fnExactTreeDigestRow.holds Try.pinned (OpenSpec.ofChange fnExactTreeDigestSpec)

/-- ITS FALSE NEIGHBOUR: 'it returns false'. Refute it at one input. -/
def fnExactTreeDigestWrong : ChangeSpec := { name := "fnExactTreeDigest", fn := fun _ => fun
  | [d] => { results := [.lit (.bool false)], args := [d] }
  | _ => none }
def FnExactTreeDigestWrongFalsely : Prop := fnExactTreeDigestRow.holds Try.pinned (OpenSpec.ofChange fnExactTreeDigestWrong)

/-- 'laws.FnPeaks': WHATEVER THE INPUT: true; the input reads as it did. -/
def fnPeaksSpec : ChangeSpec := { name := "fnPeaks", fn := fun _ => fun
  | [d] => { results := [.lit (.bool true)], args := [d] }
  | _ => none }
def fnPeaksRow : OpenClaim := { program := "ytbfkpbbaddiehaa", sum := "ffb1ad1d53483677d296b4abd309d11101f593eb926ce929e8806dd8c583811a", func := "loop.example/feedswarm/laws.FnPeaks", spec := "fnPeaks", recurses := true, plainKeys := false, apart := false }
def FnPeaksSaid : Prop := fnPeaksRow.holds Try.pinned (OpenSpec.ofChange fnPeaksSpec)

/-- ITS FALSE NEIGHBOUR: 'it returns false'. Refute it at one input. -/
def fnPeaksWrong : ChangeSpec := { name := "fnPeaks", fn := fun _ => fun
  | [d] => { results := [.lit (.bool false)], args := [d] }
  | _ => none }
def FnPeaksWrongFalsely : Prop := fnPeaksRow.holds Try.pinned (OpenSpec.ofChange fnPeaksWrong)

/-- 'laws.FnPeaksGrow': WHATEVER THE INPUT: true; the input reads as it did. -/
def fnPeaksGrowSpec : ChangeSpec := { name := "fnPeaksGrow", fn := fun _ => fun
  | [d1, d2] => { results := [.lit (.bool true)], args := [d1, d2] }
  | _ => none }
def fnPeaksGrowRow : OpenClaim := { program := "ytbfkpbbaddiehaa", sum := "ffb1ad1d53483677d296b4abd309d11101f593eb926ce929e8806dd8c583811a", func := "loop.example/feedswarm/laws.FnPeaksGrow", spec := "fnPeaksGrow", recurses := true, plainKeys := false, apart := false }
def FnPeaksGrowSaid : Prop := fnPeaksGrowRow.holds Try.pinned (OpenSpec.ofChange fnPeaksGrowSpec)

/-- ITS FALSE NEIGHBOUR: 'it returns false'. Refute it at one input. -/
def fnPeaksGrowWrong : ChangeSpec := { name := "fnPeaksGrow", fn := fun _ => fun
  | [d1, d2] => { results := [.lit (.bool false)], args := [d1, d2] }
  | _ => none }
def FnPeaksGrowWrongFalsely : Prop := fnPeaksGrowRow.holds Try.pinned (OpenSpec.ofChange fnPeaksGrowWrong)

/-- 'laws.FnPeaksJoin': WHATEVER THE INPUT: true; the input reads as it did. -/
def fnPeaksJoinSpec : ChangeSpec := { name := "fnPeaksJoin", fn := fun _ => fun
  | [d] => { results := [.lit (.bool true)], args := [d] }
  | _ => none }
def fnPeaksJoinRow : OpenClaim := { program := "ytbfkpbbaddiehaa", sum := "ffb1ad1d53483677d296b4abd309d11101f593eb926ce929e8806dd8c583811a", func := "loop.example/feedswarm/laws.FnPeaksJoin", spec := "fnPeaksJoin", recurses := true, plainKeys := false, apart := false }
def FnPeaksJoinSaid : Prop := fnPeaksJoinRow.holds Try.pinned (OpenSpec.ofChange fnPeaksJoinSpec)

/-- ITS FALSE NEIGHBOUR: 'it returns false'. Refute it at one input. -/
def fnPeaksJoinWrong : ChangeSpec := { name := "fnPeaksJoin", fn := fun _ => fun
  | [d] => { results := [.lit (.bool false)], args := [d] }
  | _ => none }
def FnPeaksJoinWrongFalsely : Prop := fnPeaksJoinRow.holds Try.pinned (OpenSpec.ofChange fnPeaksJoinWrong)

/-- 'laws.FnPeaksPair': WHATEVER THE INPUT: true; the input reads as it did. -/
def fnPeaksPairSpec : ChangeSpec := { name := "fnPeaksPair", fn := fun _ => fun
  | [d] => { results := [.lit (.bool true)], args := [d] }
  | _ => none }
def fnPeaksPairRow : OpenClaim := { program := "ytbfkpbbaddiehaa", sum := "ffb1ad1d53483677d296b4abd309d11101f593eb926ce929e8806dd8c583811a", func := "loop.example/feedswarm/laws.FnPeaksPair", spec := "fnPeaksPair", recurses := true, plainKeys := false, apart := false }
def FnPeaksPairSaid : Prop := fnPeaksPairRow.holds Try.pinned (OpenSpec.ofChange fnPeaksPairSpec)

/-- ITS FALSE NEIGHBOUR: 'it returns false'. Refute it at one input. -/
def fnPeaksPairWrong : ChangeSpec := { name := "fnPeaksPair", fn := fun _ => fun
  | [d] => { results := [.lit (.bool false)], args := [d] }
  | _ => none }
def FnPeaksPairWrongFalsely : Prop := fnPeaksPairRow.holds Try.pinned (OpenSpec.ofChange fnPeaksPairWrong)

/-- 'laws.FnPeaksWhole': WHATEVER THE INPUT: true; the input reads as it did. -/
def fnPeaksWholeSpec : ChangeSpec := { name := "fnPeaksWhole", fn := fun _ => fun
  | [d] => { results := [.lit (.bool true)], args := [d] }
  | _ => none }
def fnPeaksWholeRow : OpenClaim := { program := "ytbfkpbbaddiehaa", sum := "ffb1ad1d53483677d296b4abd309d11101f593eb926ce929e8806dd8c583811a", func := "loop.example/feedswarm/laws.FnPeaksWhole", spec := "fnPeaksWhole", recurses := true, plainKeys := false, apart := false }
def FnPeaksWholeSaid : Prop := fnPeaksWholeRow.holds Try.pinned (OpenSpec.ofChange fnPeaksWholeSpec)

/-- ITS FALSE NEIGHBOUR: 'it returns false'. Refute it at one input. -/
def fnPeaksWholeWrong : ChangeSpec := { name := "fnPeaksWhole", fn := fun _ => fun
  | [d] => { results := [.lit (.bool false)], args := [d] }
  | _ => none }
def FnPeaksWholeWrongFalsely : Prop := fnPeaksWholeRow.holds Try.pinned (OpenSpec.ofChange fnPeaksWholeWrong)

/-- 'laws.FnTreeDigest': WHATEVER THE INPUT: true; the input reads as it did. -/
def fnTreeDigestSpec : ChangeSpec := { name := "fnTreeDigest", fn := fun _ => fun
  | [d] => { results := [.lit (.bool true)], args := [d] }
  | _ => none }
def fnTreeDigestRow : OpenClaim := { program := "ytbfkpbbaddiehaa", sum := "ffb1ad1d53483677d296b4abd309d11101f593eb926ce929e8806dd8c583811a", func := "loop.example/feedswarm/laws.FnTreeDigest", spec := "fnTreeDigest", recurses := true, plainKeys := false, apart := false }
def FnTreeDigestSaid : Prop := fnTreeDigestRow.holds Try.pinned (OpenSpec.ofChange fnTreeDigestSpec)

/-- ITS FALSE NEIGHBOUR: 'it returns false'. Refute it at one input. -/
def fnTreeDigestWrong : ChangeSpec := { name := "fnTreeDigest", fn := fun _ => fun
  | [d] => { results := [.lit (.bool false)], args := [d] }
  | _ => none }
def FnTreeDigestWrongFalsely : Prop := fnTreeDigestRow.holds Try.pinned (OpenSpec.ofChange fnTreeDigestWrong)

/-- 'laws.FnTreeChange': WHATEVER THE INPUT: true; the input reads as it did. -/
def fnTreeChangeSpec : ChangeSpec := { name := "fnTreeChange", fn := fun _ => fun
  | [d1, d2] => { results := [.lit (.bool true)], args := [d1, d2] }
  | _ => none }
def fnTreeChangeRow : OpenClaim := { program := "ytbfkpbbaddiehaa", sum := "ffb1ad1d53483677d296b4abd309d11101f593eb926ce929e8806dd8c583811a", func := "loop.example/feedswarm/laws.FnTreeChange", spec := "fnTreeChange", recurses := true, plainKeys := false, apart := false }
def FnTreeChangeSaid : Prop := fnTreeChangeRow.holds Try.pinned (OpenSpec.ofChange fnTreeChangeSpec)

/-- ITS FALSE NEIGHBOUR: 'it returns false'. Refute it at one input. -/
def fnTreeChangeWrong : ChangeSpec := { name := "fnTreeChange", fn := fun _ => fun
  | [d1, d2] => { results := [.lit (.bool false)], args := [d1, d2] }
  | _ => none }
def FnTreeChangeWrongFalsely : Prop := fnTreeChangeRow.holds Try.pinned (OpenSpec.ofChange fnTreeChangeWrong)

/- THE SECOND FORM. 'bulk': how many values and letters a reading holds, each counted each time it is reached (what is shared counts as often as it is met; a slice's spare places count too). A statement '..UptoSaid' is the law's where the arguments, and the package variables that the reading takes, are together of bulk at most 1048576: NARROWER than '..Said'. Prove '..Said' where nothing that the law and all that it calls make is longer than what came in: it says more and counts as full. Else prove '..UptoSaid'. A law counts once. -/
mutual
def uptoBulk {H : Type} : DataW H → Nat
  | .lit (.string bytes) => bytes.length + 1
  | .lit _ => 1
  | .nil => 1
  | .ptr d => uptoBulk d + 1
  | .slice elems spare => uptoBulkAll elems + uptoBulkAll spare + 1
  | .agg parts => uptoBulkAll parts + 1
  | .iface _ d => uptoBulk d + 1
  | .map entries => uptoBulkEntries entries + 1
  | .held _ => 1
def uptoBulkAll {H : Type} : List (DataW H) → Nat
  | [] => 0
  | d :: r => uptoBulk d + uptoBulkAll r
def uptoBulkEntries {H : Type} : List (Lit × DataW H) → Nat
  | [] => 0
  | x :: r => uptoBulkEntry x + uptoBulkEntries r
def uptoBulkEntry {H : Type} : Lit × DataW H → Nat
  | (.string bytes, d) => bytes.length + uptoBulk d + 1
  | (_, d) => uptoBulk d + 1
 end
def uptoSmall : (H : Type) → List (DataW H) → Bool := fun _ ds => decide (uptoBulkAll ds ≤ 1048576)
def OpenSpec.upto (s : _root_.Go.ChangeSpec) : _root_.Go.OpenSpec := { _root_.Go.OpenSpec.ofChange s with cond := some uptoSmall }

/-- 'laws.FnExactTreePeaks', WHERE WHAT IT READS IS OF BULK AT MOST 1048576: true; the input reads as it did. -/
def fnExactTreePeaksUptoRow : OpenClaim := { program := "ytbfkpbbaddiehaa", sum := "ffb1ad1d53483677d296b4abd309d11101f593eb926ce929e8806dd8c583811a", func := "loop.example/feedswarm/laws.FnExactTreePeaks", spec := "fnExactTreePeaks", recurses := true, plainKeys := false, apart := false, narrowed := true }
def FnExactTreePeaksUptoSaid : Prop := fnExactTreePeaksUptoRow.holds Try.pinned (OpenSpec.upto fnExactTreePeaksSpec)

/-- 'laws.FnExactTreeDigest', WHERE WHAT IT READS IS OF BULK AT MOST 1048576: true; the input reads as it did. -/
def fnExactTreeDigestUptoRow : OpenClaim := { program := "ytbfkpbbaddiehaa", sum := "ffb1ad1d53483677d296b4abd309d11101f593eb926ce929e8806dd8c583811a", func := "loop.example/feedswarm/laws.FnExactTreeDigest", spec := "fnExactTreeDigest", recurses := true, plainKeys := false, apart := false, narrowed := true }
def FnExactTreeDigestUptoSaid : Prop := fnExactTreeDigestUptoRow.holds Try.pinned (OpenSpec.upto fnExactTreeDigestSpec)

/-- 'laws.FnPeaks', WHERE WHAT IT READS IS OF BULK AT MOST 1048576: true; the input reads as it did. -/
def fnPeaksUptoRow : OpenClaim := { program := "ytbfkpbbaddiehaa", sum := "ffb1ad1d53483677d296b4abd309d11101f593eb926ce929e8806dd8c583811a", func := "loop.example/feedswarm/laws.FnPeaks", spec := "fnPeaks", recurses := true, plainKeys := false, apart := false, narrowed := true }
def FnPeaksUptoSaid : Prop := fnPeaksUptoRow.holds Try.pinned (OpenSpec.upto fnPeaksSpec)

/-- 'laws.FnPeaksGrow', WHERE WHAT IT READS IS OF BULK AT MOST 1048576: true; the input reads as it did. -/
def fnPeaksGrowUptoRow : OpenClaim := { program := "ytbfkpbbaddiehaa", sum := "ffb1ad1d53483677d296b4abd309d11101f593eb926ce929e8806dd8c583811a", func := "loop.example/feedswarm/laws.FnPeaksGrow", spec := "fnPeaksGrow", recurses := true, plainKeys := false, apart := false, narrowed := true }
def FnPeaksGrowUptoSaid : Prop := fnPeaksGrowUptoRow.holds Try.pinned (OpenSpec.upto fnPeaksGrowSpec)

/-- 'laws.FnPeaksJoin', WHERE WHAT IT READS IS OF BULK AT MOST 1048576: true; the input reads as it did. -/
def fnPeaksJoinUptoRow : OpenClaim := { program := "ytbfkpbbaddiehaa", sum := "ffb1ad1d53483677d296b4abd309d11101f593eb926ce929e8806dd8c583811a", func := "loop.example/feedswarm/laws.FnPeaksJoin", spec := "fnPeaksJoin", recurses := true, plainKeys := false, apart := false, narrowed := true }
def FnPeaksJoinUptoSaid : Prop := fnPeaksJoinUptoRow.holds Try.pinned (OpenSpec.upto fnPeaksJoinSpec)

/-- 'laws.FnPeaksPair', WHERE WHAT IT READS IS OF BULK AT MOST 1048576: true; the input reads as it did. -/
def fnPeaksPairUptoRow : OpenClaim := { program := "ytbfkpbbaddiehaa", sum := "ffb1ad1d53483677d296b4abd309d11101f593eb926ce929e8806dd8c583811a", func := "loop.example/feedswarm/laws.FnPeaksPair", spec := "fnPeaksPair", recurses := true, plainKeys := false, apart := false, narrowed := true }
def FnPeaksPairUptoSaid : Prop := fnPeaksPairUptoRow.holds Try.pinned (OpenSpec.upto fnPeaksPairSpec)

/-- 'laws.FnPeaksWhole', WHERE WHAT IT READS IS OF BULK AT MOST 1048576: true; the input reads as it did. -/
def fnPeaksWholeUptoRow : OpenClaim := { program := "ytbfkpbbaddiehaa", sum := "ffb1ad1d53483677d296b4abd309d11101f593eb926ce929e8806dd8c583811a", func := "loop.example/feedswarm/laws.FnPeaksWhole", spec := "fnPeaksWhole", recurses := true, plainKeys := false, apart := false, narrowed := true }
def FnPeaksWholeUptoSaid : Prop := fnPeaksWholeUptoRow.holds Try.pinned (OpenSpec.upto fnPeaksWholeSpec)

/-- 'laws.FnTreeDigest', WHERE WHAT IT READS IS OF BULK AT MOST 1048576: true; the input reads as it did. -/
def fnTreeDigestUptoRow : OpenClaim := { program := "ytbfkpbbaddiehaa", sum := "ffb1ad1d53483677d296b4abd309d11101f593eb926ce929e8806dd8c583811a", func := "loop.example/feedswarm/laws.FnTreeDigest", spec := "fnTreeDigest", recurses := true, plainKeys := false, apart := false, narrowed := true }
def FnTreeDigestUptoSaid : Prop := fnTreeDigestUptoRow.holds Try.pinned (OpenSpec.upto fnTreeDigestSpec)

/-- 'laws.FnTreeChange', WHERE WHAT IT READS IS OF BULK AT MOST 1048576: true; the input reads as it did. -/
def fnTreeChangeUptoRow : OpenClaim := { program := "ytbfkpbbaddiehaa", sum := "ffb1ad1d53483677d296b4abd309d11101f593eb926ce929e8806dd8c583811a", func := "loop.example/feedswarm/laws.FnTreeChange", spec := "fnTreeChange", recurses := true, plainKeys := false, apart := false, narrowed := true }
def FnTreeChangeUptoSaid : Prop := fnTreeChangeUptoRow.holds Try.pinned (OpenSpec.upto fnTreeChangeSpec)

end Rows
end Go.Proofs.Ytbfkpbbaddiehaa
