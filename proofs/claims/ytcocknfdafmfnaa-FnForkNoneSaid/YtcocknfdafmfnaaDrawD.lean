/- What the functions hand back that draw heads. -/
import Derived.Test.YtcocknfdafmfnaaDrawC
import Derived.Test.YtcocknfdafmfnaaHM
namespace Go.Proofs.Ytcocknfdafmfnaa
set_option linter.unusedVariables false
open Go.RowKit

theorem Box.grown {w w' : World} {k g : Nat} {t : TypeId} {cs : Array Value} (h : Box w k t cs) (hg : w.grownBy w' (some g)) (hk : k ≠ g) : Box w' k t cs := (hg.block k h.lt (by simp; omega)).trans h
theorem Box.setOther {w : World} {k g i : Nat} {t : TypeId} {cs : Array Value} {v : Value} (h : Box w k t cs) (hk : k ≠ g) : Box (w.setCell ⟨g, i, none⟩ v) k t cs := (heap_setCell_other w ⟨g, i, none⟩ k v (fun e => hk e)).trans h
/-- a head and whether it is there -/
def AnyHead (w : World) (e : Ending) (w' : World) : Prop := ∃ (a b c : Int) (ok : Bool), e = .returned (.tuple #[head3 a b c, .bool ok]) ∧ Below w.heap.size w w'
theorem sHeadMake_any (s : Int) (v : Value) (L : List Int) (w : World) (h : RV w w.heap.size v (L.map (Value.int .i64))) (hn : L.length ≤ 1048576) :
    Calls Try.prog 37 #[.int .i64 s, v] w (AnyHead w) := by
  cases hb : hmB s L
  · exact (sHeadMake_no s v L w h hn hb).mono fun e w' ⟨he, hb⟩ => ⟨_, _, _, _, he, hb⟩
  · exact (sHeadMake_yes s v L w h hn hb).mono fun e w' ⟨he, hb⟩ => ⟨_, _, _, _, he, hb⟩
end Go.Proofs.Ytcocknfdafmfnaa
