/- What a law's arguments are as my words for memory: slices of integers and of bools. -/
import Derived.Test.YtpbdehncmincaaaBase
import Derived.Test.YtpbdehncmincaaaRows
import Derived.WalkKit
import Derived.ProofKit
import Derived.Lib.SmallJoins
import Derived.ChangeArms
import Derived.KernelRfl
namespace Go.Proofs.Ytpbdehncmincaaa
set_option linter.unusedVariables false
open Go.ChangeShapes Go.WideShapes Go.RowKit

theorem RV.of_cells {w : World} {x : Addr} {len cap : Nat} (hl : len ≤ cap) (hm : cap ≤ maxLen) (Z : Nat → Value) (hcell : ∀ i, i < cap → w.cell? (x.add i) = some (Z i)) :
    RV w w.heap.size (.slice (some x) len cap) ((List.range len).map Z) := by
  refine ⟨some x, cap, by simp, by simpa using hl, hm, fun h0 => ?_⟩
  have h0' : 0 < len := by simpa using h0
  have hc := hcell 0 (by omega)
  obtain ⟨b, off, spot⟩ := x
  have hspot : spot = none := by simpa [Addr.add] using World.cell?_spot hc
  subst hspot
  refine ⟨b, off, rfl, ?_, fun i u hu => ?_⟩
  · have := World.block_lt_of_cell? w _ hc
    simpa [Addr.add] using this
  · rw [List.getElem?_map] at hu
    have hi : i < len := by
      rcases Nat.lt_or_ge i len with h | h
      · exact h
      · rw [List.getElem?_eq_none (by simpa using h)] at hu; cases hu
    rw [List.getElem?_range hi] at hu
    simp only [Option.map_some, Option.some.injEq] at hu
    subst hu
    have := hcell i (by omega)
    by_cases h1 : i = 0
    · subst h1; simpa [Addr.add] using this
    · simpa [Addr.add, h1] using this

theorem RV.of_ints {w : World} {k : IntKind} {x : Addr} {len cap : Nat} {zs : List Int} (hl : len ≤ cap) (hm : cap ≤ maxLen) (hz : zs.length = cap) (hcell : ∀ i, i < zs.length → w.cell? (x.add i) = some (.int k (zs.getD i 0))) :
    RV w w.heap.size (.slice (some x) len cap) ((zs.take len).map (Value.int k)) := by
  have h := RV.of_cells (w := w) (x := x) hl hm (fun i => .int k (zs.getD i 0)) (fun i hi => hcell i (by omega))
  have e : (List.range len).map (fun i => Value.int k (zs.getD i 0)) = (zs.take len).map (Value.int k) := by
    apply List.ext_getElem?
    intro i
    rw [List.getElem?_map, List.getElem?_map, List.getElem?_take]
    by_cases hi : i < len
    · rw [List.getElem?_range hi, if_pos hi, List.getElem?_eq_getElem (show i < zs.length by omega)]
      simp [List.getD, List.getElem?_eq_getElem (show i < zs.length by omega)]
    · rw [List.getElem?_eq_none (by simpa using hi), if_neg hi]; rfl
  rw [← e]; exact h

theorem RV.of_bools {w : World} {x : Addr} {len cap : Nat} {Z : Nat → Bool} (hl : len ≤ cap) (hm : cap ≤ maxLen) (hcell : ∀ i, i < cap → w.cell? (x.add i) = some (.bool (Z i))) :
    RV w w.heap.size (.slice (some x) len cap) (((List.range len).map Z).map Value.bool) := by
  have h := RV.of_cells (w := w) (x := x) hl hm (fun i => .bool (Z i)) hcell
  rw [List.map_map]; exact h

end Go.Proofs.Ytpbdehncmincaaa
