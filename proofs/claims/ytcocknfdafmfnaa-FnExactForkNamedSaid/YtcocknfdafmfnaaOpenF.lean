/- What a law's argument is, a list of proofs of forks, as my words for memory. -/
import Derived.Test.YtcocknfdafmfnaaOpen
import Derived.Test.YtcocknfdafmfnaaForkN
import Derived.Deep.Slices
namespace Go.Proofs.Ytcocknfdafmfnaa
set_option linter.unusedVariables false
open Go.ChangeShapes Go.WideShapes Go.RowKit
theorem open_forks {H : Type} {enc : TypeId × Value → H} {w : World} {base : Nat} {spare : Nat → Bool} {held : Bool} {r : Reach} {b0 : Nat} {v : Value} {d : DataW H} {q : List MemPlace}
    (hv : Value.okWide Try.prog w r b0 31 v) (h : DataW.Trod enc Try.prog w base spare held 31 v d q) : ∃ F : List FK, RF w w.heap.size v F := by
  obtain ⟨A, len, cap, rfl⟩ := okWide_slice Try.underlying31 hv
  obtain ⟨fuel, hf⟩ := h
  rcases Go.Deep.open_slice Try.underlying31 hf with ⟨hcs, _⟩ | ⟨a, len', cap', m, n, D, Pl, hcs, hb, hl, hm, hmm, hx, hel⟩
  · simp [Value.cells] at hcs
    obtain ⟨rfl, rfl, rfl⟩ := hcs
    exact ⟨[], none, 0, rfl, Nat.le_refl _, Nat.zero_le _, fun h => by simp at h⟩
  · simp [Value.cells] at hcs
    obtain ⟨rfl, rfl, rfl⟩ := hcs
    rw [show Try.prog.cellsOf 52 = 7 by kernel_rfl] at hel
    have key : ∀ i, ∃ f : FK, i < len → w.cells? base (a.add (i * 7)) 7 = some f.cells := fun i => by
      by_cases hi : i < len
      · obtain ⟨cs', h1, h2⟩ := hel i (by rw [hmm]; split <;> omega)
        obtain ⟨p, la, da, sa, lb, db, sb, rfl, _⟩ := seven_ints h2
        exact ⟨⟨p, la, da, sa, lb, db, sb⟩, fun _ => h1⟩
      · exact ⟨⟨0, 0, 0, 0, 0, 0, 0⟩, fun h => absurd h hi⟩
    have hG := fun i => Classical.choose_spec (key i)
    refine ⟨(List.range len).map fun i => Classical.choose (key i), some a, cap, by simp, by simpa using hl, hm, fun h0 => ?_⟩
    have h0' : 0 < len := by simpa using h0
    have hc0 := (World.cells?_some (hG 0 h0')).2.2 0 (by omega)
    obtain ⟨b, off, spot⟩ := a
    have hspot : spot = none := by
      have : w.cell? ⟨b, off, spot⟩ = some (.int .i64 (Classical.choose (key 0)).p) := by simpa [Addr.add, FK.cells] using hc0
      simpa using World.cell?_spot this
    subst hspot
    refine ⟨b, off, rfl, ?_, fun i f hi j u hu => ?_⟩
    · have := World.block_lt_of_cell? w _ hc0
      simpa [Addr.add] using this
    · rw [List.getElem?_map] at hi
      have hil : i < len := by
        rcases Nat.lt_or_ge i len with h | h
        · exact h
        · rw [List.getElem?_eq_none (by simpa using h)] at hi; cases hi
      rw [List.getElem?_range hil] at hi
      simp only [Option.map_some, Option.some.injEq] at hi
      have hj : j < 7 := by
        rcases Nat.lt_or_ge j 7 with h1 | h1
        · exact h1
        · rw [List.getElem?_eq_none (by unfold FK.cells; simpa using h1)] at hu; cases hu
      have hc := (World.cells?_some (hG i hil)).2.2 j hj
      rw [hi, hu] at hc
      rw [← hc]
      congr 1
      by_cases h1 : i * 7 = 0 <;> by_cases h2 : j = 0 <;> simp [Addr.add, h1, h2, Nat.add_assoc]
end Go.Proofs.Ytcocknfdafmfnaa
