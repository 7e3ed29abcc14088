/-
  No cell of these rows narrows 'for every input' (looked for: loops, veiled, ifaces, maps, wideKeys, modest, calm, conditions, laid).
  DERIVED. THE GIVEN ROWS OF THIS SEAT. 4 by the template 'for every input the law returns true; each argument reads behind the call as it read before'; 0 by the template 'total and deterministic' (their statements: YtcocknfdafmfnaaTotals.lean).
  GIVEN WITH THE SEED: the statements are not yours to turn. If you find one false, say at which input.
  Laid BY PROGRAM, IN A SANDBOX (cutbox-rows.mjs): the forced cells as the released guide's own fill.sh prints them over the translation bd0d774c414958b7… (all of the seat's roots in one cut). By AI agents, Wed Nov 11 2026. No macro, syntax, notation, axiom, sorry.
-/
import Derived.Test.YtcocknfdafmfnaaChecked
import GoSem.Claim
import GoSem.ClaimJoined
import GoSem.ClaimMapViews
import Derived.JoinedTies
import Derived.KernelRfl
namespace Go.Proofs.Ytcocknfdafmfnaa
/- THE CELL 'sum', in the pinned program and in every row, IS THE sha256 OF THE DUMP (.gsa) THAT YtcocknfdafmfnaaProg.lean LOADS. Nothing in Lean hashes anything: it is a label: what it is worth is what the hold of that sum in a sandbox is worth. -/
noncomputable def Try.pinned : Pinned := { name := "ytcocknfdafmfnaa", sum := "bd0d774c414958b76be607405b273d2ecad3d68ef20506be15a2916629bfffba", checked := Try.checked }
namespace Rows
def none {H : Type} : Left H := { results := [], args := [] }

/-- 'laws.FnForkCheck': WHATEVER THE INPUT: true; the input reads as it did. -/
def fnForkCheckSpec : ChangeSpec := { name := "fnForkCheck", fn := fun _ => fun
  | [d] => { results := [.lit (.bool true)], args := [d] }
  | _ => none }
def fnForkCheckRow : OpenClaim := { program := "ytcocknfdafmfnaa", sum := "bd0d774c414958b76be607405b273d2ecad3d68ef20506be15a2916629bfffba", func := "loop.example/feedswarm/laws.FnForkCheck", spec := "fnForkCheck", recurses := true, apart := false }
def FnForkCheckSaid : Prop := fnForkCheckRow.holds Try.pinned (OpenSpec.ofChange fnForkCheckSpec)

/-- ITS FALSE NEIGHBOUR: 'it returns false'. Refute it at one input. -/
def fnForkCheckWrong : ChangeSpec := { name := "fnForkCheck", fn := fun _ => fun
  | [d] => { results := [.lit (.bool false)], args := [d] }
  | _ => none }
def FnForkCheckWrongFalsely : Prop := fnForkCheckRow.holds Try.pinned (OpenSpec.ofChange fnForkCheckWrong)

/-- 'laws.FnForkOne': WHATEVER THE INPUT: true; the input reads as it did. -/
def fnForkOneSpec : ChangeSpec := { name := "fnForkOne", fn := fun _ => fun
  | [d] => { results := [.lit (.bool true)], args := [d] }
  | _ => none }
def fnForkOneRow : OpenClaim := { program := "ytcocknfdafmfnaa", sum := "bd0d774c414958b76be607405b273d2ecad3d68ef20506be15a2916629bfffba", func := "loop.example/feedswarm/laws.FnForkOne", spec := "fnForkOne", recurses := true, apart := false }
def FnForkOneSaid : Prop := fnForkOneRow.holds Try.pinned (OpenSpec.ofChange fnForkOneSpec)

/-- ITS FALSE NEIGHBOUR: 'it returns false'. Refute it at one input. -/
def fnForkOneWrong : ChangeSpec := { name := "fnForkOne", fn := fun _ => fun
  | [d] => { results := [.lit (.bool false)], args := [d] }
  | _ => none }
def FnForkOneWrongFalsely : Prop := fnForkOneRow.holds Try.pinned (OpenSpec.ofChange fnForkOneWrong)

/-- 'laws.FnExactForkNamed': WHATEVER THE INPUT: true; the input reads as it did. -/
def fnExactForkNamedSpec : ChangeSpec := { name := "fnExactForkNamed", fn := fun _ => fun
  | [d] => { results := [.lit (.bool true)], args := [d] }
  | _ => none }
def fnExactForkNamedRow : OpenClaim := { program := "ytcocknfdafmfnaa", sum := "bd0d774c414958b76be607405b273d2ecad3d68ef20506be15a2916629bfffba", func := "loop.example/feedswarm/laws.FnExactForkNamed", spec := "fnExactForkNamed", recurses := true, apart := false }
def FnExactForkNamedSaid : Prop := fnExactForkNamedRow.holds Try.pinned (OpenSpec.ofChange fnExactForkNamedSpec)

/-- ITS FALSE NEIGHBOUR: 'it returns false'. Refute it at one input. -/
def fnExactForkNamedWrong : ChangeSpec := { name := "fnExactForkNamed", fn := fun _ => fun
  | [d] => { results := [.lit (.bool false)], args := [d] }
  | _ => none }
def FnExactForkNamedWrongFalsely : Prop := fnExactForkNamedRow.holds Try.pinned (OpenSpec.ofChange fnExactForkNamedWrong)

/-- 'laws.FnForkNone': WHATEVER THE INPUT: true; the input reads as it did. -/
def fnForkNoneSpec : ChangeSpec := { name := "fnForkNone", fn := fun _ => fun
  | [d] => { results := [.lit (.bool true)], args := [d] }
  | _ => none }
def fnForkNoneRow : OpenClaim := { program := "ytcocknfdafmfnaa", sum := "bd0d774c414958b76be607405b273d2ecad3d68ef20506be15a2916629bfffba", func := "loop.example/feedswarm/laws.FnForkNone", spec := "fnForkNone", recurses := true, apart := false }
def FnForkNoneSaid : Prop := fnForkNoneRow.holds Try.pinned (OpenSpec.ofChange fnForkNoneSpec)

/-- ITS FALSE NEIGHBOUR: 'it returns false'. Refute it at one input. -/
def fnForkNoneWrong : ChangeSpec := { name := "fnForkNone", fn := fun _ => fun
  | [d] => { results := [.lit (.bool false)], args := [d] }
  | _ => none }
def FnForkNoneWrongFalsely : Prop := fnForkNoneRow.holds Try.pinned (OpenSpec.ofChange fnForkNoneWrong)

/- THE SECOND FORM. 'bulk': how many values and letters a reading holds, each counted each time it is reached (what is shared counts as often as it is met; a slice's spare places count too). A statement '..UptoSaid' is the law's where the arguments, and the package variables that the reading takes, are together of bulk at most 1048576: NARROWER than '..Said'. Prove '..Said' where nothing that the law and all that it calls make is longer than what came in: it says more and counts as full. Else prove '..UptoSaid'. A law counts once. -/
mutual
def uptoBulk {H : Type} : DataW H → Nat
  | .lit (.string bytes) => bytes.length + 1
  | .lit _ => 1
  | .nil => 1
  | .ptr d => uptoBulk d + 1
  | .slice elems spare => uptoBulkAll elems + uptoBulkAll spare + 1
  | .agg parts => uptoBulkAll parts + 1
  | .iface _ d => uptoBulk d + 1
  | .map entries => uptoBulkEntries entries + 1
  | .held _ => 1
def uptoBulkAll {H : Type} : List (DataW H) → Nat
  | [] => 0
  | d :: r => uptoBulk d + uptoBulkAll r
def uptoBulkEntries {H : Type} : List (Lit × DataW H) → Nat
  | [] => 0
  | x :: r => uptoBulkEntry x + uptoBulkEntries r
def uptoBulkEntry {H : Type} : Lit × DataW H → Nat
  | (.string bytes, d) => bytes.length + uptoBulk d + 1
  | (_, d) => uptoBulk d + 1
 end
def uptoSmall : (H : Type) → List (DataW H) → Bool := fun _ ds => decide (uptoBulkAll ds ≤ 1048576)
def OpenSpec.upto (s : _root_.Go.ChangeSpec) : _root_.Go.OpenSpec := { _root_.Go.OpenSpec.ofChange s with cond := some uptoSmall }

/-- 'laws.FnForkCheck', WHERE WHAT IT READS IS OF BULK AT MOST 1048576: true; the input reads as it did. -/
def fnForkCheckUptoRow : OpenClaim := { program := "ytcocknfdafmfnaa", sum := "bd0d774c414958b76be607405b273d2ecad3d68ef20506be15a2916629bfffba", func := "loop.example/feedswarm/laws.FnForkCheck", spec := "fnForkCheck", recurses := true, apart := false, narrowed := true }
def FnForkCheckUptoSaid : Prop := fnForkCheckUptoRow.holds Try.pinned (OpenSpec.upto fnForkCheckSpec)

/-- 'laws.FnForkOne', WHERE WHAT IT READS IS OF BULK AT MOST 1048576: true; the input reads as it did. -/
def fnForkOneUptoRow : OpenClaim := { program := "ytcocknfdafmfnaa", sum := "bd0d774c414958b76be607405b273d2ecad3d68ef20506be15a2916629bfffba", func := "loop.example/feedswarm/laws.FnForkOne", spec := "fnForkOne", recurses := true, apart := false, narrowed := true }
def FnForkOneUptoSaid : Prop := fnForkOneUptoRow.holds Try.pinned (OpenSpec.upto fnForkOneSpec)

/-- 'laws.FnExactForkNamed', WHERE WHAT IT READS IS OF BULK AT MOST 1048576: true; the input reads as it did. -/
def fnExactForkNamedUptoRow : OpenClaim := { program := "ytcocknfdafmfnaa", sum := "bd0d774c414958b76be607405b273d2ecad3d68ef20506be15a2916629bfffba", func := "loop.example/feedswarm/laws.FnExactForkNamed", spec := "fnExactForkNamed", recurses := true, apart := false, narrowed := true }
def FnExactForkNamedUptoSaid : Prop := fnExactForkNamedUptoRow.holds Try.pinned (OpenSpec.upto fnExactForkNamedSpec)

/-- 'laws.FnForkNone', WHERE WHAT IT READS IS OF BULK AT MOST 1048576: true; the input reads as it did. -/
def fnForkNoneUptoRow : OpenClaim := { program := "ytcocknfdafmfnaa", sum := "bd0d774c414958b76be607405b273d2ecad3d68ef20506be15a2916629bfffba", func := "loop.example/feedswarm/laws.FnForkNone", spec := "fnForkNone", recurses := true, apart := false, narrowed := true }
def FnForkNoneUptoSaid : Prop := fnForkNoneUptoRow.holds Try.pinned (OpenSpec.upto fnForkNoneSpec)

end Rows
end Go.Proofs.Ytcocknfdafmfnaa
