/- The walk that divides leaves into trees: a row of elements of two cells. -/
import Derived.Test.YtcocknfdafmfnaaCover
namespace Go.Proofs.Ytcocknfdafmfnaa
set_option linter.unusedVariables false
open Go.RowKit

def Szp (a n : Nat) (s : Int) : Prop := ∃ j, j ≤ 4 ∧ s = ((2 ^ j : Nat) : Int) ∧ htF (4 - j) a n j = ht a n
theorem szp_start (a n : Nat) : Szp a n 1 := ⟨0, by omega, rfl, rfl⟩
theorem szp_bd {a n : Nat} {s : Int} (h : Szp a n s) : 1 ≤ s ∧ s ≤ 16 := by
  obtain ⟨j, hj, rfl, _⟩ := h
  rcases (show j = 0 ∨ j = 1 ∨ j = 2 ∨ j = 3 ∨ j = 4 by omega) with rfl | rfl | rfl | rfl | rfl <;> decide
theorem szp_pow {j : Nat} : ((2 ^ (j + 1) : Nat) : Int) = 2 * ((2 ^ j : Nat) : Int) := by rw [Nat.pow_succ]; omega
theorem szp_more {a n : Nat} {s : Int} (h : Szp a n s) (hn : n ≤ 16) (h1 : 2 * s ≤ (n : Int) - a) (h2 : (a : Int) % (2 * s) = 0) : Szp a n (2 * s) := by
  obtain ⟨j, hj, rfl, hh⟩ := h
  have hj4 : j < 4 := by
    rcases Nat.lt_or_ge j 4 with h | h
    · exact h
    · have : j = 4 := by omega
      subst this
      have : ((2 ^ 4 : Nat) : Int) = 16 := rfl
      omega
  rw [← szp_pow] at h1 h2
  have h1' : a + 2 ^ (j + 1) ≤ n := by omega
  have h2' : a % 2 ^ (j + 1) = 0 := by
    have : ((a % 2 ^ (j + 1) : Nat) : Int) = 0 := by rw [Int.natCast_emod]; exact h2
    omega
  refine ⟨j + 1, by omega, szp_pow.symm, ?_⟩
  rw [← hh, show 4 - j = (4 - (j + 1)) + 1 by omega, htF_yes h2' h1']
theorem szp_end {a n : Nat} {s : Int} (h : Szp a n s) (hn : ¬ (2 * s ≤ (n : Int) - a ∧ (a : Int) % (2 * s) = 0)) (han : a ≤ n) : szI a n = s := by
  obtain ⟨j, hj, rfl, hh⟩ := h
  refine szI_of ?_ rfl
  rw [← hh]
  rcases Nat.lt_or_ge j 4 with hj4 | hj4
  · rw [show 4 - j = (4 - (j + 1)) + 1 by omega]
    refine htF_no ?_
    rw [← szp_pow] at hn
    by_cases h1 : a % 2 ^ (j + 1) = 0
    · right
      rcases Nat.lt_or_ge n (a + 2 ^ (j + 1)) with h2 | h2
      · exact h2
      · exact absurd ⟨by omega, by rw [← Int.natCast_emod, h1]; rfl⟩ hn
    · exact .inl h1
  · have : j = 4 := by omega
    subst this; rfl
theorem szI_bd (a n : Nat) : 1 ≤ szI a n := by
  unfold szI
  have : 0 < (2 : Nat) ^ ht a n := Nat.pow_pos (by decide)
  omega

theorem trF_yes {f a n : Nat} (h : a < n) : trF (f + 1) a n = (a, ht a n) :: trF f (a + 2 ^ ht a n) n := if_pos h
theorem trF_no {f a n : Nat} (h : n ≤ a) : trF f a n = [] := by
  cases f with
  | zero => rfl
  | succ f => exact if_neg (by omega)

end Go.Proofs.Ytcocknfdafmfnaa
