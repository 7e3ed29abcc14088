/-
  No cell of these rows narrows 'for every input' (looked for: loops, veiled, ifaces, maps, wideKeys, modest, calm, conditions, laid).
  DERIVED. THE GIVEN ROWS OF THIS SEAT. 12 by the template 'for every input the law returns true; each argument reads behind the call as it read before'; 0 by the template 'total and deterministic' (their statements: YtnjdlpcbjjepeaaTotals.lean).
  GIVEN WITH THE SEED: the statements are not yours to turn. If you find one false, say at which input.
  Laid BY PROGRAM, IN A SANDBOX (cutbox-rows.mjs): the forced cells as the released guide's own fill.sh prints them over the translation a25c8c9498f8fa3d… (all of the seat's roots in one cut). By AI agents, Wed Nov 11 2026. No macro, syntax, notation, axiom, sorry.
-/
import Derived.Test.YtnjdlpcbjjepeaaChecked
import GoSem.Claim
import GoSem.ClaimJoined
import GoSem.ClaimMapViews
import Derived.JoinedTies
import Derived.KernelRfl
namespace Go.Proofs.Ytnjdlpcbjjepeaa
/- THE CELL 'sum', in the pinned program and in every row, IS THE sha256 OF THE DUMP (.gsa) THAT YtnjdlpcbjjepeaaProg.lean LOADS. Nothing in Lean hashes anything: it is a label: what it is worth is what the hold of that sum in a sandbox is worth. -/
noncomputable def Try.pinned : Pinned := { name := "ytnjdlpcbjjepeaa", sum := "a25c8c9498f8fa3d7b06e5998752f091005715316306f6010ca82f46137f8cc6", checked := Try.checked }
namespace Rows
def none {H : Type} : Left H := { results := [], args := [] }

/-- 'laws.FnExactConstants': WHATEVER THE INPUT: true; the input reads as it did. -/
def fnExactConstantsSpec : ChangeSpec := { name := "fnExactConstants", fn := fun _ => fun
  | [] => { results := [.lit (.bool true)], args := [] }
  | _ => none }
def fnExactConstantsRow : OpenClaim := { program := "ytnjdlpcbjjepeaa", sum := "a25c8c9498f8fa3d7b06e5998752f091005715316306f6010ca82f46137f8cc6", func := "loop.example/feedswarm/laws.FnExactConstants", spec := "fnExactConstants", apart := false }
def FnExactConstantsSaid : Prop := fnExactConstantsRow.holds Try.pinned (OpenSpec.ofChange fnExactConstantsSpec)

/-- ITS FALSE NEIGHBOUR: 'it returns false'. Refute it at one input. -/
def fnExactConstantsWrong : ChangeSpec := { name := "fnExactConstants", fn := fun _ => fun
  | [] => { results := [.lit (.bool false)], args := [] }
  | _ => none }
def FnExactConstantsWrongFalsely : Prop := fnExactConstantsRow.holds Try.pinned (OpenSpec.ofChange fnExactConstantsWrong)

/-- 'laws.FnExactHeadPublic': WHATEVER THE INPUT: true; the input reads as it did. -/
def fnExactHeadPublicSpec : ChangeSpec := { name := "fnExactHeadPublic", fn := fun _ => fun
  | [d] => { results := [.lit (.bool true)], args := [d] }
  | _ => none }
def fnExactHeadPublicRow : OpenClaim := { program := "ytnjdlpcbjjepeaa", sum := "a25c8c9498f8fa3d7b06e5998752f091005715316306f6010ca82f46137f8cc6", func := "loop.example/feedswarm/laws.FnExactHeadPublic", spec := "fnExactHeadPublic", apart := false }
def FnExactHeadPublicSaid : Prop := fnExactHeadPublicRow.holds Try.pinned (OpenSpec.ofChange fnExactHeadPublicSpec)

/-- ITS FALSE NEIGHBOUR: 'it returns false'. Refute it at one input. -/
def fnExactHeadPublicWrong : ChangeSpec := { name := "fnExactHeadPublic", fn := fun _ => fun
  | [d] => { results := [.lit (.bool false)], args := [d] }
  | _ => none }
def FnExactHeadPublicWrongFalsely : Prop := fnExactHeadPublicRow.holds Try.pinned (OpenSpec.ofChange fnExactHeadPublicWrong)

/-- 'laws.FnExactDigestText': WHATEVER THE INPUT: true; the input reads as it did. -/
def fnExactDigestTextSpec : ChangeSpec := { name := "fnExactDigestText", fn := fun _ => fun
  | [d] => { results := [.lit (.bool true)], args := [d] }
  | _ => none }
def fnExactDigestTextRow : OpenClaim := { program := "ytnjdlpcbjjepeaa", sum := "a25c8c9498f8fa3d7b06e5998752f091005715316306f6010ca82f46137f8cc6", func := "loop.example/feedswarm/laws.FnExactDigestText", spec := "fnExactDigestText", apart := false }
def FnExactDigestTextSaid : Prop := fnExactDigestTextRow.holds Try.pinned (OpenSpec.ofChange fnExactDigestTextSpec)

/-- ITS FALSE NEIGHBOUR: 'it returns false'. Refute it at one input. -/
def fnExactDigestTextWrong : ChangeSpec := { name := "fnExactDigestText", fn := fun _ => fun
  | [d] => { results := [.lit (.bool false)], args := [d] }
  | _ => none }
def FnExactDigestTextWrongFalsely : Prop := fnExactDigestTextRow.holds Try.pinned (OpenSpec.ofChange fnExactDigestTextWrong)

/-- 'laws.FnExactDigestPair': WHATEVER THE INPUT: true; the input reads as it did. -/
def fnExactDigestPairSpec : ChangeSpec := { name := "fnExactDigestPair", fn := fun _ => fun
  | [d1, d2] => { results := [.lit (.bool true)], args := [d1, d2] }
  | _ => none }
def fnExactDigestPairRow : OpenClaim := { program := "ytnjdlpcbjjepeaa", sum := "a25c8c9498f8fa3d7b06e5998752f091005715316306f6010ca82f46137f8cc6", func := "loop.example/feedswarm/laws.FnExactDigestPair", spec := "fnExactDigestPair", apart := false }
def FnExactDigestPairSaid : Prop := fnExactDigestPairRow.holds Try.pinned (OpenSpec.ofChange fnExactDigestPairSpec)

/-- ITS FALSE NEIGHBOUR: 'it returns false'. Refute it at one input. -/
def fnExactDigestPairWrong : ChangeSpec := { name := "fnExactDigestPair", fn := fun _ => fun
  | [d1, d2] => { results := [.lit (.bool false)], args := [d1, d2] }
  | _ => none }
def FnExactDigestPairWrongFalsely : Prop := fnExactDigestPairRow.holds Try.pinned (OpenSpec.ofChange fnExactDigestPairWrong)

/-- 'laws.FnExactHeadCheck': WHATEVER THE INPUT: true; the input reads as it did. -/
def fnExactHeadCheckSpec : ChangeSpec := { name := "fnExactHeadCheck", fn := fun _ => fun
  | [d1, d2] => { results := [.lit (.bool true)], args := [d1, d2] }
  | _ => none }
def fnExactHeadCheckRow : OpenClaim := { program := "ytnjdlpcbjjepeaa", sum := "a25c8c9498f8fa3d7b06e5998752f091005715316306f6010ca82f46137f8cc6", func := "loop.example/feedswarm/laws.FnExactHeadCheck", spec := "fnExactHeadCheck", apart := false }
def FnExactHeadCheckSaid : Prop := fnExactHeadCheckRow.holds Try.pinned (OpenSpec.ofChange fnExactHeadCheckSpec)

/-- ITS FALSE NEIGHBOUR: 'it returns false'. Refute it at one input. -/
def fnExactHeadCheckWrong : ChangeSpec := { name := "fnExactHeadCheck", fn := fun _ => fun
  | [d1, d2] => { results := [.lit (.bool false)], args := [d1, d2] }
  | _ => none }
def FnExactHeadCheckWrongFalsely : Prop := fnExactHeadCheckRow.holds Try.pinned (OpenSpec.ofChange fnExactHeadCheckWrong)

/-- 'laws.FnExactForkCheck': WHATEVER THE INPUT: true; the input reads as it did. -/
def fnExactForkCheckSpec : ChangeSpec := { name := "fnExactForkCheck", fn := fun _ => fun
  | [d] => { results := [.lit (.bool true)], args := [d] }
  | _ => none }
def fnExactForkCheckRow : OpenClaim := { program := "ytnjdlpcbjjepeaa", sum := "a25c8c9498f8fa3d7b06e5998752f091005715316306f6010ca82f46137f8cc6", func := "loop.example/feedswarm/laws.FnExactForkCheck", spec := "fnExactForkCheck", apart := false }
def FnExactForkCheckSaid : Prop := fnExactForkCheckRow.holds Try.pinned (OpenSpec.ofChange fnExactForkCheckSpec)

/-- ITS FALSE NEIGHBOUR: 'it returns false'. Refute it at one input. -/
def fnExactForkCheckWrong : ChangeSpec := { name := "fnExactForkCheck", fn := fun _ => fun
  | [d] => { results := [.lit (.bool false)], args := [d] }
  | _ => none }
def FnExactForkCheckWrongFalsely : Prop := fnExactForkCheckRow.holds Try.pinned (OpenSpec.ofChange fnExactForkCheckWrong)

/-- 'laws.FnPublic': WHATEVER THE INPUT: true; the input reads as it did. -/
def fnPublicSpec : ChangeSpec := { name := "fnPublic", fn := fun _ => fun
  | [d1, d2] => { results := [.lit (.bool true)], args := [d1, d2] }
  | _ => none }
def fnPublicRow : OpenClaim := { program := "ytnjdlpcbjjepeaa", sum := "a25c8c9498f8fa3d7b06e5998752f091005715316306f6010ca82f46137f8cc6", func := "loop.example/feedswarm/laws.FnPublic", spec := "fnPublic", apart := false }
def FnPublicSaid : Prop := fnPublicRow.holds Try.pinned (OpenSpec.ofChange fnPublicSpec)

/-- ITS FALSE NEIGHBOUR: 'it returns false'. Refute it at one input. -/
def fnPublicWrong : ChangeSpec := { name := "fnPublic", fn := fun _ => fun
  | [d1, d2] => { results := [.lit (.bool false)], args := [d1, d2] }
  | _ => none }
def FnPublicWrongFalsely : Prop := fnPublicRow.holds Try.pinned (OpenSpec.ofChange fnPublicWrong)

/-- 'laws.FnPairOrder': WHATEVER THE INPUT: true; the input reads as it did. -/
def fnPairOrderSpec : ChangeSpec := { name := "fnPairOrder", fn := fun _ => fun
  | [d] => { results := [.lit (.bool true)], args := [d] }
  | _ => none }
def fnPairOrderRow : OpenClaim := { program := "ytnjdlpcbjjepeaa", sum := "a25c8c9498f8fa3d7b06e5998752f091005715316306f6010ca82f46137f8cc6", func := "loop.example/feedswarm/laws.FnPairOrder", spec := "fnPairOrder", apart := false }
def FnPairOrderSaid : Prop := fnPairOrderRow.holds Try.pinned (OpenSpec.ofChange fnPairOrderSpec)

/-- ITS FALSE NEIGHBOUR: 'it returns false'. Refute it at one input. -/
def fnPairOrderWrong : ChangeSpec := { name := "fnPairOrder", fn := fun _ => fun
  | [d] => { results := [.lit (.bool false)], args := [d] }
  | _ => none }
def FnPairOrderWrongFalsely : Prop := fnPairOrderRow.holds Try.pinned (OpenSpec.ofChange fnPairOrderWrong)

/-- 'laws.FnTextByte': WHATEVER THE INPUT: true; the input reads as it did. -/
def fnTextByteSpec : ChangeSpec := { name := "fnTextByte", fn := fun _ => fun
  | [d1, d2] => { results := [.lit (.bool true)], args := [d1, d2] }
  | _ => none }
def fnTextByteRow : OpenClaim := { program := "ytnjdlpcbjjepeaa", sum := "a25c8c9498f8fa3d7b06e5998752f091005715316306f6010ca82f46137f8cc6", func := "loop.example/feedswarm/laws.FnTextByte", spec := "fnTextByte", apart := false }
def FnTextByteSaid : Prop := fnTextByteRow.holds Try.pinned (OpenSpec.ofChange fnTextByteSpec)

/-- ITS FALSE NEIGHBOUR: 'it returns false'. Refute it at one input. -/
def fnTextByteWrong : ChangeSpec := { name := "fnTextByte", fn := fun _ => fun
  | [d1, d2] => { results := [.lit (.bool false)], args := [d1, d2] }
  | _ => none }
def FnTextByteWrongFalsely : Prop := fnTextByteRow.holds Try.pinned (OpenSpec.ofChange fnTextByteWrong)

/-- 'laws.FnTextEmpty': WHATEVER THE INPUT: true; the input reads as it did. -/
def fnTextEmptySpec : ChangeSpec := { name := "fnTextEmpty", fn := fun _ => fun
  | [d] => { results := [.lit (.bool true)], args := [d] }
  | _ => none }
def fnTextEmptyRow : OpenClaim := { program := "ytnjdlpcbjjepeaa", sum := "a25c8c9498f8fa3d7b06e5998752f091005715316306f6010ca82f46137f8cc6", func := "loop.example/feedswarm/laws.FnTextEmpty", spec := "fnTextEmpty", apart := false }
def FnTextEmptySaid : Prop := fnTextEmptyRow.holds Try.pinned (OpenSpec.ofChange fnTextEmptySpec)

/-- ITS FALSE NEIGHBOUR: 'it returns false'. Refute it at one input. -/
def fnTextEmptyWrong : ChangeSpec := { name := "fnTextEmpty", fn := fun _ => fun
  | [d] => { results := [.lit (.bool false)], args := [d] }
  | _ => none }
def FnTextEmptyWrongFalsely : Prop := fnTextEmptyRow.holds Try.pinned (OpenSpec.ofChange fnTextEmptyWrong)

/-- 'laws.FnTextNext': WHATEVER THE INPUT: true; the input reads as it did. -/
def fnTextNextSpec : ChangeSpec := { name := "fnTextNext", fn := fun _ => fun
  | [d1, d2] => { results := [.lit (.bool true)], args := [d1, d2] }
  | _ => none }
def fnTextNextRow : OpenClaim := { program := "ytnjdlpcbjjepeaa", sum := "a25c8c9498f8fa3d7b06e5998752f091005715316306f6010ca82f46137f8cc6", func := "loop.example/feedswarm/laws.FnTextNext", spec := "fnTextNext", apart := false }
def FnTextNextSaid : Prop := fnTextNextRow.holds Try.pinned (OpenSpec.ofChange fnTextNextSpec)

/-- ITS FALSE NEIGHBOUR: 'it returns false'. Refute it at one input. -/
def fnTextNextWrong : ChangeSpec := { name := "fnTextNext", fn := fun _ => fun
  | [d1, d2] => { results := [.lit (.bool false)], args := [d1, d2] }
  | _ => none }
def FnTextNextWrongFalsely : Prop := fnTextNextRow.holds Try.pinned (OpenSpec.ofChange fnTextNextWrong)

/-- 'laws.FnPair': WHATEVER THE INPUT: true; the input reads as it did. -/
def fnPairSpec : ChangeSpec := { name := "fnPair", fn := fun _ => fun
  | [d1, d2] => { results := [.lit (.bool true)], args := [d1, d2] }
  | _ => none }
def fnPairRow : OpenClaim := { program := "ytnjdlpcbjjepeaa", sum := "a25c8c9498f8fa3d7b06e5998752f091005715316306f6010ca82f46137f8cc6", func := "loop.example/feedswarm/laws.FnPair", spec := "fnPair", apart := false }
def FnPairSaid : Prop := fnPairRow.holds Try.pinned (OpenSpec.ofChange fnPairSpec)

/-- ITS FALSE NEIGHBOUR: 'it returns false'. Refute it at one input. -/
def fnPairWrong : ChangeSpec := { name := "fnPair", fn := fun _ => fun
  | [d1, d2] => { results := [.lit (.bool false)], args := [d1, d2] }
  | _ => none }
def FnPairWrongFalsely : Prop := fnPairRow.holds Try.pinned (OpenSpec.ofChange fnPairWrong)

/- THE SECOND FORM. 'bulk': how many values and letters a reading holds, each counted each time it is reached (what is shared counts as often as it is met; a slice's spare places count too). A statement '..UptoSaid' is the law's where the arguments, and the package variables that the reading takes, are together of bulk at most 1048576: NARROWER than '..Said'. Prove '..Said' where nothing that the law and all that it calls make is longer than what came in: it says more and counts as full. Else prove '..UptoSaid'. A law counts once. -/
mutual
def uptoBulk {H : Type} : DataW H → Nat
  | .lit (.string bytes) => bytes.length + 1
  | .lit _ => 1
  | .nil => 1
  | .ptr d => uptoBulk d + 1
  | .slice elems spare => uptoBulkAll elems + uptoBulkAll spare + 1
  | .agg parts => uptoBulkAll parts + 1
  | .iface _ d => uptoBulk d + 1
  | .map entries => uptoBulkEntries entries + 1
  | .held _ => 1
def uptoBulkAll {H : Type} : List (DataW H) → Nat
  | [] => 0
  | d :: r => uptoBulk d + uptoBulkAll r
def uptoBulkEntries {H : Type} : List (Lit × DataW H) → Nat
  | [] => 0
  | x :: r => uptoBulkEntry x + uptoBulkEntries r
def uptoBulkEntry {H : Type} : Lit × DataW H → Nat
  | (.string bytes, d) => bytes.length + uptoBulk d + 1
  | (_, d) => uptoBulk d + 1
 end
def uptoSmall : (H : Type) → List (DataW H) → Bool := fun _ ds => decide (uptoBulkAll ds ≤ 1048576)
def OpenSpec.upto (s : _root_.Go.ChangeSpec) : _root_.Go.OpenSpec := { _root_.Go.OpenSpec.ofChange s with cond := some uptoSmall }

/-- 'laws.FnExactConstants', WHERE WHAT IT READS IS OF BULK AT MOST 1048576: true; the input reads as it did. -/
def fnExactConstantsUptoRow : OpenClaim := { program := "ytnjdlpcbjjepeaa", sum := "a25c8c9498f8fa3d7b06e5998752f091005715316306f6010ca82f46137f8cc6", func := "loop.example/feedswarm/laws.FnExactConstants", spec := "fnExactConstants", apart := false, narrowed := true }
def FnExactConstantsUptoSaid : Prop := fnExactConstantsUptoRow.holds Try.pinned (OpenSpec.upto fnExactConstantsSpec)

/-- 'laws.FnExactHeadPublic', WHERE WHAT IT READS IS OF BULK AT MOST 1048576: true; the input reads as it did. -/
def fnExactHeadPublicUptoRow : OpenClaim := { program := "ytnjdlpcbjjepeaa", sum := "a25c8c9498f8fa3d7b06e5998752f091005715316306f6010ca82f46137f8cc6", func := "loop.example/feedswarm/laws.FnExactHeadPublic", spec := "fnExactHeadPublic", apart := false, narrowed := true }
def FnExactHeadPublicUptoSaid : Prop := fnExactHeadPublicUptoRow.holds Try.pinned (OpenSpec.upto fnExactHeadPublicSpec)

/-- 'laws.FnExactDigestText', WHERE WHAT IT READS IS OF BULK AT MOST 1048576: true; the input reads as it did. -/
def fnExactDigestTextUptoRow : OpenClaim := { program := "ytnjdlpcbjjepeaa", sum := "a25c8c9498f8fa3d7b06e5998752f091005715316306f6010ca82f46137f8cc6", func := "loop.example/feedswarm/laws.FnExactDigestText", spec := "fnExactDigestText", apart := false, narrowed := true }
def FnExactDigestTextUptoSaid : Prop := fnExactDigestTextUptoRow.holds Try.pinned (OpenSpec.upto fnExactDigestTextSpec)

/-- 'laws.FnExactDigestPair', WHERE WHAT IT READS IS OF BULK AT MOST 1048576: true; the input reads as it did. -/
def fnExactDigestPairUptoRow : OpenClaim := { program := "ytnjdlpcbjjepeaa", sum := "a25c8c9498f8fa3d7b06e5998752f091005715316306f6010ca82f46137f8cc6", func := "loop.example/feedswarm/laws.FnExactDigestPair", spec := "fnExactDigestPair", apart := false, narrowed := true }
def FnExactDigestPairUptoSaid : Prop := fnExactDigestPairUptoRow.holds Try.pinned (OpenSpec.upto fnExactDigestPairSpec)

/-- 'laws.FnExactHeadCheck', WHERE WHAT IT READS IS OF BULK AT MOST 1048576: true; the input reads as it did. -/
def fnExactHeadCheckUptoRow : OpenClaim := { program := "ytnjdlpcbjjepeaa", sum := "a25c8c9498f8fa3d7b06e5998752f091005715316306f6010ca82f46137f8cc6", func := "loop.example/feedswarm/laws.FnExactHeadCheck", spec := "fnExactHeadCheck", apart := false, narrowed := true }
def FnExactHeadCheckUptoSaid : Prop := fnExactHeadCheckUptoRow.holds Try.pinned (OpenSpec.upto fnExactHeadCheckSpec)

/-- 'laws.FnExactForkCheck', WHERE WHAT IT READS IS OF BULK AT MOST 1048576: true; the input reads as it did. -/
def fnExactForkCheckUptoRow : OpenClaim := { program := "ytnjdlpcbjjepeaa", sum := "a25c8c9498f8fa3d7b06e5998752f091005715316306f6010ca82f46137f8cc6", func := "loop.example/feedswarm/laws.FnExactForkCheck", spec := "fnExactForkCheck", apart := false, narrowed := true }
def FnExactForkCheckUptoSaid : Prop := fnExactForkCheckUptoRow.holds Try.pinned (OpenSpec.upto fnExactForkCheckSpec)

/-- 'laws.FnPublic', WHERE WHAT IT READS IS OF BULK AT MOST 1048576: true; the input reads as it did. -/
def fnPublicUptoRow : OpenClaim := { program := "ytnjdlpcbjjepeaa", sum := "a25c8c9498f8fa3d7b06e5998752f091005715316306f6010ca82f46137f8cc6", func := "loop.example/feedswarm/laws.FnPublic", spec := "fnPublic", apart := false, narrowed := true }
def FnPublicUptoSaid : Prop := fnPublicUptoRow.holds Try.pinned (OpenSpec.upto fnPublicSpec)

/-- 'laws.FnPairOrder', WHERE WHAT IT READS IS OF BULK AT MOST 1048576: true; the input reads as it did. -/
def fnPairOrderUptoRow : OpenClaim := { program := "ytnjdlpcbjjepeaa", sum := "a25c8c9498f8fa3d7b06e5998752f091005715316306f6010ca82f46137f8cc6", func := "loop.example/feedswarm/laws.FnPairOrder", spec := "fnPairOrder", apart := false, narrowed := true }
def FnPairOrderUptoSaid : Prop := fnPairOrderUptoRow.holds Try.pinned (OpenSpec.upto fnPairOrderSpec)

/-- 'laws.FnTextByte', WHERE WHAT IT READS IS OF BULK AT MOST 1048576: true; the input reads as it did. -/
def fnTextByteUptoRow : OpenClaim := { program := "ytnjdlpcbjjepeaa", sum := "a25c8c9498f8fa3d7b06e5998752f091005715316306f6010ca82f46137f8cc6", func := "loop.example/feedswarm/laws.FnTextByte", spec := "fnTextByte", apart := false, narrowed := true }
def FnTextByteUptoSaid : Prop := fnTextByteUptoRow.holds Try.pinned (OpenSpec.upto fnTextByteSpec)

/-- 'laws.FnTextEmpty', WHERE WHAT IT READS IS OF BULK AT MOST 1048576: true; the input reads as it did. -/
def fnTextEmptyUptoRow : OpenClaim := { program := "ytnjdlpcbjjepeaa", sum := "a25c8c9498f8fa3d7b06e5998752f091005715316306f6010ca82f46137f8cc6", func := "loop.example/feedswarm/laws.FnTextEmpty", spec := "fnTextEmpty", apart := false, narrowed := true }
def FnTextEmptyUptoSaid : Prop := fnTextEmptyUptoRow.holds Try.pinned (OpenSpec.upto fnTextEmptySpec)

/-- 'laws.FnTextNext', WHERE WHAT IT READS IS OF BULK AT MOST 1048576: true; the input reads as it did. -/
def fnTextNextUptoRow : OpenClaim := { program := "ytnjdlpcbjjepeaa", sum := "a25c8c9498f8fa3d7b06e5998752f091005715316306f6010ca82f46137f8cc6", func := "loop.example/feedswarm/laws.FnTextNext", spec := "fnTextNext", apart := false, narrowed := true }
def FnTextNextUptoSaid : Prop := fnTextNextUptoRow.holds Try.pinned (OpenSpec.upto fnTextNextSpec)

/-- 'laws.FnPair', WHERE WHAT IT READS IS OF BULK AT MOST 1048576: true; the input reads as it did. -/
def fnPairUptoRow : OpenClaim := { program := "ytnjdlpcbjjepeaa", sum := "a25c8c9498f8fa3d7b06e5998752f091005715316306f6010ca82f46137f8cc6", func := "loop.example/feedswarm/laws.FnPair", spec := "fnPair", apart := false, narrowed := true }
def FnPairUptoSaid : Prop := fnPairUptoRow.holds Try.pinned (OpenSpec.upto fnPairSpec)

end Rows
end Go.Proofs.Ytnjdlpcbjjepeaa
