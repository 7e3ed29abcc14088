/-
  No cell of these rows narrows 'for every input' (looked for: loops, veiled, ifaces, maps, wideKeys, modest, calm, conditions, laid).
  DERIVED. THE GIVEN ROWS OF THIS SEAT. 14 by the template 'for every input the law returns true; each argument reads behind the call as it read before'; 0 by the template 'total and deterministic' (their statements: YtjmgkcmmhkpmhaaTotals.lean).
  GIVEN WITH THE SEED: the statements are not yours to turn. If you find one false, say at which input.
  Laid BY PROGRAM, IN A SANDBOX (cutbox-rows.mjs): the forced cells as the released guide's own fill.sh prints them over the translation 1e5bfdaaf9896ea8… (all of the seat's roots in one cut). By AI agents, Wed Nov 11 2026. No macro, syntax, notation, axiom, sorry.
-/
import Derived.Test.YtjmgkcmmhkpmhaaChecked
import GoSem.Claim
import GoSem.ClaimJoined
import GoSem.ClaimMapViews
import Derived.JoinedTies
import Derived.KernelRfl
namespace Go.Proofs.Ytjmgkcmmhkpmhaa
/- THE CELL 'sum', in the pinned program and in every row, IS THE sha256 OF THE DUMP (.gsa) THAT YtjmgkcmmhkpmhaaProg.lean LOADS. Nothing in Lean hashes anything: it is a label: what it is worth is what the hold of that sum in a sandbox is worth. -/
noncomputable def Try.pinned : Pinned := { name := "ytjmgkcmmhkpmhaa", sum := "1e5bfdaaf9896ea83745195fc593b2b5f11b5981a0bcbe4668030ba56d27033c", checked := Try.checked }
namespace Rows
def none {H : Type} : Left H := { results := [], args := [] }

/-- 'laws.FnExactBitsCount': WHATEVER THE INPUT: true; the input reads as it did. -/
def fnExactBitsCountSpec : ChangeSpec := { name := "fnExactBitsCount", fn := fun _ => fun
  | [d] => { results := [.lit (.bool true)], args := [d] }
  | _ => none }
def fnExactBitsCountRow : OpenClaim := { program := "ytjmgkcmmhkpmhaa", sum := "1e5bfdaaf9896ea83745195fc593b2b5f11b5981a0bcbe4668030ba56d27033c", func := "loop.example/feedswarm/laws.FnExactBitsCount", spec := "fnExactBitsCount", apart := false }
def FnExactBitsCountSaid : Prop := fnExactBitsCountRow.holds Try.pinned (OpenSpec.ofChange fnExactBitsCountSpec)

/-- ITS FALSE NEIGHBOUR: 'it returns false'. Refute it at one input. -/
def fnExactBitsCountWrong : ChangeSpec := { name := "fnExactBitsCount", fn := fun _ => fun
  | [d] => { results := [.lit (.bool false)], args := [d] }
  | _ => none }
def FnExactBitsCountWrongFalsely : Prop := fnExactBitsCountRow.holds Try.pinned (OpenSpec.ofChange fnExactBitsCountWrong)

/-- 'laws.FnCount': WHATEVER THE INPUT: true; the input reads as it did. -/
def fnCountSpec : ChangeSpec := { name := "fnCount", fn := fun _ => fun
  | [d1, d2] => { results := [.lit (.bool true)], args := [d1, d2] }
  | _ => none }
def fnCountRow : OpenClaim := { program := "ytjmgkcmmhkpmhaa", sum := "1e5bfdaaf9896ea83745195fc593b2b5f11b5981a0bcbe4668030ba56d27033c", func := "loop.example/feedswarm/laws.FnCount", spec := "fnCount", apart := false }
def FnCountSaid : Prop := fnCountRow.holds Try.pinned (OpenSpec.ofChange fnCountSpec)

/-- ITS FALSE NEIGHBOUR: 'it returns false'. Refute it at one input. -/
def fnCountWrong : ChangeSpec := { name := "fnCount", fn := fun _ => fun
  | [d1, d2] => { results := [.lit (.bool false)], args := [d1, d2] }
  | _ => none }
def FnCountWrongFalsely : Prop := fnCountRow.holds Try.pinned (OpenSpec.ofChange fnCountWrong)

/-- 'laws.FnCountParts': WHATEVER THE INPUT: true; the input reads as it did. -/
def fnCountPartsSpec : ChangeSpec := { name := "fnCountParts", fn := fun _ => fun
  | [d1, d2] => { results := [.lit (.bool true)], args := [d1, d2] }
  | _ => none }
def fnCountPartsRow : OpenClaim := { program := "ytjmgkcmmhkpmhaa", sum := "1e5bfdaaf9896ea83745195fc593b2b5f11b5981a0bcbe4668030ba56d27033c", func := "loop.example/feedswarm/laws.FnCountParts", spec := "fnCountParts", apart := false }
def FnCountPartsSaid : Prop := fnCountPartsRow.holds Try.pinned (OpenSpec.ofChange fnCountPartsSpec)

/-- ITS FALSE NEIGHBOUR: 'it returns false'. Refute it at one input. -/
def fnCountPartsWrong : ChangeSpec := { name := "fnCountParts", fn := fun _ => fun
  | [d1, d2] => { results := [.lit (.bool false)], args := [d1, d2] }
  | _ => none }
def FnCountPartsWrongFalsely : Prop := fnCountPartsRow.holds Try.pinned (OpenSpec.ofChange fnCountPartsWrong)

/-- 'laws.FnWantsNone': WHATEVER THE INPUT: true; the input reads as it did. -/
def fnWantsNoneSpec : ChangeSpec := { name := "fnWantsNone", fn := fun _ => fun
  | [d] => { results := [.lit (.bool true)], args := [d] }
  | _ => none }
def fnWantsNoneRow : OpenClaim := { program := "ytjmgkcmmhkpmhaa", sum := "1e5bfdaaf9896ea83745195fc593b2b5f11b5981a0bcbe4668030ba56d27033c", func := "loop.example/feedswarm/laws.FnWantsNone", spec := "fnWantsNone", apart := false }
def FnWantsNoneSaid : Prop := fnWantsNoneRow.holds Try.pinned (OpenSpec.ofChange fnWantsNoneSpec)

/-- ITS FALSE NEIGHBOUR: 'it returns false'. Refute it at one input. -/
def fnWantsNoneWrong : ChangeSpec := { name := "fnWantsNone", fn := fun _ => fun
  | [d] => { results := [.lit (.bool false)], args := [d] }
  | _ => none }
def FnWantsNoneWrongFalsely : Prop := fnWantsNoneRow.holds Try.pinned (OpenSpec.ofChange fnWantsNoneWrong)

/-- 'laws.FnExactBitsWants': WHATEVER THE INPUT: true; the input reads as it did. -/
def fnExactBitsWantsSpec : ChangeSpec := { name := "fnExactBitsWants", fn := fun _ => fun
  | [d1, d2] => { results := [.lit (.bool true)], args := [d1, d2] }
  | _ => none }
def fnExactBitsWantsRow : OpenClaim := { program := "ytjmgkcmmhkpmhaa", sum := "1e5bfdaaf9896ea83745195fc593b2b5f11b5981a0bcbe4668030ba56d27033c", func := "loop.example/feedswarm/laws.FnExactBitsWants", spec := "fnExactBitsWants", apart := false }
def FnExactBitsWantsSaid : Prop := fnExactBitsWantsRow.holds Try.pinned (OpenSpec.ofChange fnExactBitsWantsSpec)

/-- ITS FALSE NEIGHBOUR: 'it returns false'. Refute it at one input. -/
def fnExactBitsWantsWrong : ChangeSpec := { name := "fnExactBitsWants", fn := fun _ => fun
  | [d1, d2] => { results := [.lit (.bool false)], args := [d1, d2] }
  | _ => none }
def FnExactBitsWantsWrongFalsely : Prop := fnExactBitsWantsRow.holds Try.pinned (OpenSpec.ofChange fnExactBitsWantsWrong)

/-- 'laws.FnWants': WHATEVER THE INPUT: true; the input reads as it did. -/
def fnWantsSpec : ChangeSpec := { name := "fnWants", fn := fun _ => fun
  | [d] => { results := [.lit (.bool true)], args := [d] }
  | _ => none }
def fnWantsRow : OpenClaim := { program := "ytjmgkcmmhkpmhaa", sum := "1e5bfdaaf9896ea83745195fc593b2b5f11b5981a0bcbe4668030ba56d27033c", func := "loop.example/feedswarm/laws.FnWants", spec := "fnWants", apart := false }
def FnWantsSaid : Prop := fnWantsRow.holds Try.pinned (OpenSpec.ofChange fnWantsSpec)

/-- ITS FALSE NEIGHBOUR: 'it returns false'. Refute it at one input. -/
def fnWantsWrong : ChangeSpec := { name := "fnWants", fn := fun _ => fun
  | [d] => { results := [.lit (.bool false)], args := [d] }
  | _ => none }
def FnWantsWrongFalsely : Prop := fnWantsRow.holds Try.pinned (OpenSpec.ofChange fnWantsWrong)

/-- 'laws.FnRunsPositive': WHATEVER THE INPUT: true; the input reads as it did. -/
def fnRunsPositiveSpec : ChangeSpec := { name := "fnRunsPositive", fn := fun _ => fun
  | [d] => { results := [.lit (.bool true)], args := [d] }
  | _ => none }
def fnRunsPositiveRow : OpenClaim := { program := "ytjmgkcmmhkpmhaa", sum := "1e5bfdaaf9896ea83745195fc593b2b5f11b5981a0bcbe4668030ba56d27033c", func := "loop.example/feedswarm/laws.FnRunsPositive", spec := "fnRunsPositive", apart := false }
def FnRunsPositiveSaid : Prop := fnRunsPositiveRow.holds Try.pinned (OpenSpec.ofChange fnRunsPositiveSpec)

/-- ITS FALSE NEIGHBOUR: 'it returns false'. Refute it at one input. -/
def fnRunsPositiveWrong : ChangeSpec := { name := "fnRunsPositive", fn := fun _ => fun
  | [d] => { results := [.lit (.bool false)], args := [d] }
  | _ => none }
def FnRunsPositiveWrongFalsely : Prop := fnRunsPositiveRow.holds Try.pinned (OpenSpec.ofChange fnRunsPositiveWrong)

/-- 'laws.FnExactBitsOf': WHATEVER THE INPUT: true; the input reads as it did. -/
def fnExactBitsOfSpec : ChangeSpec := { name := "fnExactBitsOf", fn := fun _ => fun
  | [d] => { results := [.lit (.bool true)], args := [d] }
  | _ => none }
def fnExactBitsOfRow : OpenClaim := { program := "ytjmgkcmmhkpmhaa", sum := "1e5bfdaaf9896ea83745195fc593b2b5f11b5981a0bcbe4668030ba56d27033c", func := "loop.example/feedswarm/laws.FnExactBitsOf", spec := "fnExactBitsOf", apart := false }
def FnExactBitsOfSaid : Prop := fnExactBitsOfRow.holds Try.pinned (OpenSpec.ofChange fnExactBitsOfSpec)

/-- ITS FALSE NEIGHBOUR: 'it returns false'. Refute it at one input. -/
def fnExactBitsOfWrong : ChangeSpec := { name := "fnExactBitsOf", fn := fun _ => fun
  | [d] => { results := [.lit (.bool false)], args := [d] }
  | _ => none }
def FnExactBitsOfWrongFalsely : Prop := fnExactBitsOfRow.holds Try.pinned (OpenSpec.ofChange fnExactBitsOfWrong)

/-- 'laws.FnWantsCount': WHATEVER THE INPUT: true; the input reads as it did. -/
def fnWantsCountSpec : ChangeSpec := { name := "fnWantsCount", fn := fun _ => fun
  | [d] => { results := [.lit (.bool true)], args := [d] }
  | _ => none }
def fnWantsCountRow : OpenClaim := { program := "ytjmgkcmmhkpmhaa", sum := "1e5bfdaaf9896ea83745195fc593b2b5f11b5981a0bcbe4668030ba56d27033c", func := "loop.example/feedswarm/laws.FnWantsCount", spec := "fnWantsCount", apart := false }
def FnWantsCountSaid : Prop := fnWantsCountRow.holds Try.pinned (OpenSpec.ofChange fnWantsCountSpec)

/-- ITS FALSE NEIGHBOUR: 'it returns false'. Refute it at one input. -/
def fnWantsCountWrong : ChangeSpec := { name := "fnWantsCount", fn := fun _ => fun
  | [d] => { results := [.lit (.bool false)], args := [d] }
  | _ => none }
def FnWantsCountWrongFalsely : Prop := fnWantsCountRow.holds Try.pinned (OpenSpec.ofChange fnWantsCountWrong)

/-- 'laws.FnExactBitsRuns': WHATEVER THE INPUT: true; the input reads as it did. -/
def fnExactBitsRunsSpec : ChangeSpec := { name := "fnExactBitsRuns", fn := fun _ => fun
  | [d] => { results := [.lit (.bool true)], args := [d] }
  | _ => none }
def fnExactBitsRunsRow : OpenClaim := { program := "ytjmgkcmmhkpmhaa", sum := "1e5bfdaaf9896ea83745195fc593b2b5f11b5981a0bcbe4668030ba56d27033c", func := "loop.example/feedswarm/laws.FnExactBitsRuns", spec := "fnExactBitsRuns", apart := false }
def FnExactBitsRunsSaid : Prop := fnExactBitsRunsRow.holds Try.pinned (OpenSpec.ofChange fnExactBitsRunsSpec)

/-- ITS FALSE NEIGHBOUR: 'it returns false'. Refute it at one input. -/
def fnExactBitsRunsWrong : ChangeSpec := { name := "fnExactBitsRuns", fn := fun _ => fun
  | [d] => { results := [.lit (.bool false)], args := [d] }
  | _ => none }
def FnExactBitsRunsWrongFalsely : Prop := fnExactBitsRunsRow.holds Try.pinned (OpenSpec.ofChange fnExactBitsRunsWrong)

/-- 'laws.FnRunsCount': WHATEVER THE INPUT: true; the input reads as it did. -/
def fnRunsCountSpec : ChangeSpec := { name := "fnRunsCount", fn := fun _ => fun
  | [d] => { results := [.lit (.bool true)], args := [d] }
  | _ => none }
def fnRunsCountRow : OpenClaim := { program := "ytjmgkcmmhkpmhaa", sum := "1e5bfdaaf9896ea83745195fc593b2b5f11b5981a0bcbe4668030ba56d27033c", func := "loop.example/feedswarm/laws.FnRunsCount", spec := "fnRunsCount", apart := false }
def FnRunsCountSaid : Prop := fnRunsCountRow.holds Try.pinned (OpenSpec.ofChange fnRunsCountSpec)

/-- ITS FALSE NEIGHBOUR: 'it returns false'. Refute it at one input. -/
def fnRunsCountWrong : ChangeSpec := { name := "fnRunsCount", fn := fun _ => fun
  | [d] => { results := [.lit (.bool false)], args := [d] }
  | _ => none }
def FnRunsCountWrongFalsely : Prop := fnRunsCountRow.holds Try.pinned (OpenSpec.ofChange fnRunsCountWrong)

/-- 'laws.FnRuns': WHATEVER THE INPUT: true; the input reads as it did. -/
def fnRunsSpec : ChangeSpec := { name := "fnRuns", fn := fun _ => fun
  | [d] => { results := [.lit (.bool true)], args := [d] }
  | _ => none }
def fnRunsRow : OpenClaim := { program := "ytjmgkcmmhkpmhaa", sum := "1e5bfdaaf9896ea83745195fc593b2b5f11b5981a0bcbe4668030ba56d27033c", func := "loop.example/feedswarm/laws.FnRuns", spec := "fnRuns", apart := false }
def FnRunsSaid : Prop := fnRunsRow.holds Try.pinned (OpenSpec.ofChange fnRunsSpec)

/-- ITS FALSE NEIGHBOUR: 'it returns false'. Refute it at one input. -/
def fnRunsWrong : ChangeSpec := { name := "fnRuns", fn := fun _ => fun
  | [d] => { results := [.lit (.bool false)], args := [d] }
  | _ => none }
def FnRunsWrongFalsely : Prop := fnRunsRow.holds Try.pinned (OpenSpec.ofChange fnRunsWrong)

/-- 'laws.FnRunsBack': WHATEVER THE INPUT: true; the input reads as it did. -/
def fnRunsBackSpec : ChangeSpec := { name := "fnRunsBack", fn := fun _ => fun
  | [d] => { results := [.lit (.bool true)], args := [d] }
  | _ => none }
def fnRunsBackRow : OpenClaim := { program := "ytjmgkcmmhkpmhaa", sum := "1e5bfdaaf9896ea83745195fc593b2b5f11b5981a0bcbe4668030ba56d27033c", func := "loop.example/feedswarm/laws.FnRunsBack", spec := "fnRunsBack", apart := false }
def FnRunsBackSaid : Prop := fnRunsBackRow.holds Try.pinned (OpenSpec.ofChange fnRunsBackSpec)

/-- ITS FALSE NEIGHBOUR: 'it returns false'. Refute it at one input. -/
def fnRunsBackWrong : ChangeSpec := { name := "fnRunsBack", fn := fun _ => fun
  | [d] => { results := [.lit (.bool false)], args := [d] }
  | _ => none }
def FnRunsBackWrongFalsely : Prop := fnRunsBackRow.holds Try.pinned (OpenSpec.ofChange fnRunsBackWrong)

/-- 'laws.FnExactFeedNew': WHATEVER THE INPUT: true; the input reads as it did. -/
def fnExactFeedNewSpec : ChangeSpec := { name := "fnExactFeedNew", fn := fun _ => fun
  | [d] => { results := [.lit (.bool true)], args := [d] }
  | _ => none }
def fnExactFeedNewRow : OpenClaim := { program := "ytjmgkcmmhkpmhaa", sum := "1e5bfdaaf9896ea83745195fc593b2b5f11b5981a0bcbe4668030ba56d27033c", func := "loop.example/feedswarm/laws.FnExactFeedNew", spec := "fnExactFeedNew", apart := false }
def FnExactFeedNewSaid : Prop := fnExactFeedNewRow.holds Try.pinned (OpenSpec.ofChange fnExactFeedNewSpec)

/-- ITS FALSE NEIGHBOUR: 'it returns false'. Refute it at one input. -/
def fnExactFeedNewWrong : ChangeSpec := { name := "fnExactFeedNew", fn := fun _ => fun
  | [d] => { results := [.lit (.bool false)], args := [d] }
  | _ => none }
def FnExactFeedNewWrongFalsely : Prop := fnExactFeedNewRow.holds Try.pinned (OpenSpec.ofChange fnExactFeedNewWrong)

/- THE SECOND FORM. 'bulk': how many values and letters a reading holds, each counted each time it is reached (what is shared counts as often as it is met; a slice's spare places count too). A statement '..UptoSaid' is the law's where the arguments, and the package variables that the reading takes, are together of bulk at most 1048576: NARROWER than '..Said'. Prove '..Said' where nothing that the law and all that it calls make is longer than what came in: it says more and counts as full. Else prove '..UptoSaid'. A law counts once. -/
mutual
def uptoBulk {H : Type} : DataW H → Nat
  | .lit (.string bytes) => bytes.length + 1
  | .lit _ => 1
  | .nil => 1
  | .ptr d => uptoBulk d + 1
  | .slice elems spare => uptoBulkAll elems + uptoBulkAll spare + 1
  | .agg parts => uptoBulkAll parts + 1
  | .iface _ d => uptoBulk d + 1
  | .map entries => uptoBulkEntries entries + 1
  | .held _ => 1
def uptoBulkAll {H : Type} : List (DataW H) → Nat
  | [] => 0
  | d :: r => uptoBulk d + uptoBulkAll r
def uptoBulkEntries {H : Type} : List (Lit × DataW H) → Nat
  | [] => 0
  | x :: r => uptoBulkEntry x + uptoBulkEntries r
def uptoBulkEntry {H : Type} : Lit × DataW H → Nat
  | (.string bytes, d) => bytes.length + uptoBulk d + 1
  | (_, d) => uptoBulk d + 1
 end
def uptoSmall : (H : Type) → List (DataW H) → Bool := fun _ ds => decide (uptoBulkAll ds ≤ 1048576)
def OpenSpec.upto (s : _root_.Go.ChangeSpec) : _root_.Go.OpenSpec := { _root_.Go.OpenSpec.ofChange s with cond := some uptoSmall }

/-- 'laws.FnExactBitsCount', WHERE WHAT IT READS IS OF BULK AT MOST 1048576: true; the input reads as it did. -/
def fnExactBitsCountUptoRow : OpenClaim := { program := "ytjmgkcmmhkpmhaa", sum := "1e5bfdaaf9896ea83745195fc593b2b5f11b5981a0bcbe4668030ba56d27033c", func := "loop.example/feedswarm/laws.FnExactBitsCount", spec := "fnExactBitsCount", apart := false, narrowed := true }
def FnExactBitsCountUptoSaid : Prop := fnExactBitsCountUptoRow.holds Try.pinned (OpenSpec.upto fnExactBitsCountSpec)

/-- 'laws.FnCount', WHERE WHAT IT READS IS OF BULK AT MOST 1048576: true; the input reads as it did. -/
def fnCountUptoRow : OpenClaim := { program := "ytjmgkcmmhkpmhaa", sum := "1e5bfdaaf9896ea83745195fc593b2b5f11b5981a0bcbe4668030ba56d27033c", func := "loop.example/feedswarm/laws.FnCount", spec := "fnCount", apart := false, narrowed := true }
def FnCountUptoSaid : Prop := fnCountUptoRow.holds Try.pinned (OpenSpec.upto fnCountSpec)

/-- 'laws.FnCountParts', WHERE WHAT IT READS IS OF BULK AT MOST 1048576: true; the input reads as it did. -/
def fnCountPartsUptoRow : OpenClaim := { program := "ytjmgkcmmhkpmhaa", sum := "1e5bfdaaf9896ea83745195fc593b2b5f11b5981a0bcbe4668030ba56d27033c", func := "loop.example/feedswarm/laws.FnCountParts", spec := "fnCountParts", apart := false, narrowed := true }
def FnCountPartsUptoSaid : Prop := fnCountPartsUptoRow.holds Try.pinned (OpenSpec.upto fnCountPartsSpec)

/-- 'laws.FnWantsNone', WHERE WHAT IT READS IS OF BULK AT MOST 1048576: true; the input reads as it did. -/
def fnWantsNoneUptoRow : OpenClaim := { program := "ytjmgkcmmhkpmhaa", sum := "1e5bfdaaf9896ea83745195fc593b2b5f11b5981a0bcbe4668030ba56d27033c", func := "loop.example/feedswarm/laws.FnWantsNone", spec := "fnWantsNone", apart := false, narrowed := true }
def FnWantsNoneUptoSaid : Prop := fnWantsNoneUptoRow.holds Try.pinned (OpenSpec.upto fnWantsNoneSpec)

/-- 'laws.FnExactBitsWants', WHERE WHAT IT READS IS OF BULK AT MOST 1048576: true; the input reads as it did. -/
def fnExactBitsWantsUptoRow : OpenClaim := { program := "ytjmgkcmmhkpmhaa", sum := "1e5bfdaaf9896ea83745195fc593b2b5f11b5981a0bcbe4668030ba56d27033c", func := "loop.example/feedswarm/laws.FnExactBitsWants", spec := "fnExactBitsWants", apart := false, narrowed := true }
def FnExactBitsWantsUptoSaid : Prop := fnExactBitsWantsUptoRow.holds Try.pinned (OpenSpec.upto fnExactBitsWantsSpec)

/-- 'laws.FnWants', WHERE WHAT IT READS IS OF BULK AT MOST 1048576: true; the input reads as it did. -/
def fnWantsUptoRow : OpenClaim := { program := "ytjmgkcmmhkpmhaa", sum := "1e5bfdaaf9896ea83745195fc593b2b5f11b5981a0bcbe4668030ba56d27033c", func := "loop.example/feedswarm/laws.FnWants", spec := "fnWants", apart := false, narrowed := true }
def FnWantsUptoSaid : Prop := fnWantsUptoRow.holds Try.pinned (OpenSpec.upto fnWantsSpec)

/-- 'laws.FnRunsPositive', WHERE WHAT IT READS IS OF BULK AT MOST 1048576: true; the input reads as it did. -/
def fnRunsPositiveUptoRow : OpenClaim := { program := "ytjmgkcmmhkpmhaa", sum := "1e5bfdaaf9896ea83745195fc593b2b5f11b5981a0bcbe4668030ba56d27033c", func := "loop.example/feedswarm/laws.FnRunsPositive", spec := "fnRunsPositive", apart := false, narrowed := true }
def FnRunsPositiveUptoSaid : Prop := fnRunsPositiveUptoRow.holds Try.pinned (OpenSpec.upto fnRunsPositiveSpec)

/-- 'laws.FnExactBitsOf', WHERE WHAT IT READS IS OF BULK AT MOST 1048576: true; the input reads as it did. -/
def fnExactBitsOfUptoRow : OpenClaim := { program := "ytjmgkcmmhkpmhaa", sum := "1e5bfdaaf9896ea83745195fc593b2b5f11b5981a0bcbe4668030ba56d27033c", func := "loop.example/feedswarm/laws.FnExactBitsOf", spec := "fnExactBitsOf", apart := false, narrowed := true }
def FnExactBitsOfUptoSaid : Prop := fnExactBitsOfUptoRow.holds Try.pinned (OpenSpec.upto fnExactBitsOfSpec)

/-- 'laws.FnWantsCount', WHERE WHAT IT READS IS OF BULK AT MOST 1048576: true; the input reads as it did. -/
def fnWantsCountUptoRow : OpenClaim := { program := "ytjmgkcmmhkpmhaa", sum := "1e5bfdaaf9896ea83745195fc593b2b5f11b5981a0bcbe4668030ba56d27033c", func := "loop.example/feedswarm/laws.FnWantsCount", spec := "fnWantsCount", apart := false, narrowed := true }
def FnWantsCountUptoSaid : Prop := fnWantsCountUptoRow.holds Try.pinned (OpenSpec.upto fnWantsCountSpec)

/-- 'laws.FnExactBitsRuns', WHERE WHAT IT READS IS OF BULK AT MOST 1048576: true; the input reads as it did. -/
def fnExactBitsRunsUptoRow : OpenClaim := { program := "ytjmgkcmmhkpmhaa", sum := "1e5bfdaaf9896ea83745195fc593b2b5f11b5981a0bcbe4668030ba56d27033c", func := "loop.example/feedswarm/laws.FnExactBitsRuns", spec := "fnExactBitsRuns", apart := false, narrowed := true }
def FnExactBitsRunsUptoSaid : Prop := fnExactBitsRunsUptoRow.holds Try.pinned (OpenSpec.upto fnExactBitsRunsSpec)

/-- 'laws.FnRunsCount', WHERE WHAT IT READS IS OF BULK AT MOST 1048576: true; the input reads as it did. -/
def fnRunsCountUptoRow : OpenClaim := { program := "ytjmgkcmmhkpmhaa", sum := "1e5bfdaaf9896ea83745195fc593b2b5f11b5981a0bcbe4668030ba56d27033c", func := "loop.example/feedswarm/laws.FnRunsCount", spec := "fnRunsCount", apart := false, narrowed := true }
def FnRunsCountUptoSaid : Prop := fnRunsCountUptoRow.holds Try.pinned (OpenSpec.upto fnRunsCountSpec)

/-- 'laws.FnRuns', WHERE WHAT IT READS IS OF BULK AT MOST 1048576: true; the input reads as it did. -/
def fnRunsUptoRow : OpenClaim := { program := "ytjmgkcmmhkpmhaa", sum := "1e5bfdaaf9896ea83745195fc593b2b5f11b5981a0bcbe4668030ba56d27033c", func := "loop.example/feedswarm/laws.FnRuns", spec := "fnRuns", apart := false, narrowed := true }
def FnRunsUptoSaid : Prop := fnRunsUptoRow.holds Try.pinned (OpenSpec.upto fnRunsSpec)

/-- 'laws.FnRunsBack', WHERE WHAT IT READS IS OF BULK AT MOST 1048576: true; the input reads as it did. -/
def fnRunsBackUptoRow : OpenClaim := { program := "ytjmgkcmmhkpmhaa", sum := "1e5bfdaaf9896ea83745195fc593b2b5f11b5981a0bcbe4668030ba56d27033c", func := "loop.example/feedswarm/laws.FnRunsBack", spec := "fnRunsBack", apart := false, narrowed := true }
def FnRunsBackUptoSaid : Prop := fnRunsBackUptoRow.holds Try.pinned (OpenSpec.upto fnRunsBackSpec)

/-- 'laws.FnExactFeedNew', WHERE WHAT IT READS IS OF BULK AT MOST 1048576: true; the input reads as it did. -/
def fnExactFeedNewUptoRow : OpenClaim := { program := "ytjmgkcmmhkpmhaa", sum := "1e5bfdaaf9896ea83745195fc593b2b5f11b5981a0bcbe4668030ba56d27033c", func := "loop.example/feedswarm/laws.FnExactFeedNew", spec := "fnExactFeedNew", apart := false, narrowed := true }
def FnExactFeedNewUptoSaid : Prop := fnExactFeedNewUptoRow.holds Try.pinned (OpenSpec.upto fnExactFeedNewSpec)

end Rows
end Go.Proofs.Ytjmgkcmmhkpmhaa
