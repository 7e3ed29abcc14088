/- Plain facts on the places of a proof. No program in sight. -/
import Derived.Test.YtnhpilipkeddiaaTreeLaw
namespace Go.Proofs.Ytnhpilipkeddiaa
set_option linter.unusedVariables false

/-- where leaf i lies among the trees of n leaves -/
structure At (n i k a h : Nat) : Prop where
  lt : k < (tr 0 n).length
  get : (tr 0 n)[k]? = some (a, h)
  idx : peakN (tr 0 n) i = k
  h4 : h ≤ 4
  lo : a ≤ i
  hi : i < a + 2 ^ h
  en : a + 2 ^ h ≤ n
  len : (tr 0 n).length ≤ 5
  before : ∀ j, j < k → ∀ t, (tr 0 n)[j]? = some t → t.1 + 2 ^ t.2 ≤ i
  other : (tr 0 n).filter (fun t => !(t.1 == a)) = (tr 0 n).eraseIdx k
  sibs : ∀ j, j < h → sib i j + 2 ^ j ≤ n
theorem at_ok (n i : Nat) (hn : n ≤ 16) (hi : i < n) : ∃ k a h, At n i k a h := by
  have T : ∀ n : Fin 17, ∀ i : Fin 16, i.1 < n.1 → ∃ k : Fin 5, ∃ a : Fin 16, ∃ h : Fin 5, k.1 < (tr 0 n.1).length ∧ (tr 0 n.1)[k.1]? = some (a.1, h.1) ∧ peakN (tr 0 n.1) i.1 = k.1 ∧ a.1 ≤ i.1 ∧ i.1 < a.1 + 2 ^ h.1 ∧ a.1 + 2 ^ h.1 ≤ n.1 ∧ (tr 0 n.1).length ≤ 5 ∧
      ((tr 0 n.1).take k.1).all (fun t => decide (t.1 + 2 ^ t.2 ≤ i.1)) = true ∧ (tr 0 n.1).filter (fun t => !(t.1 == a.1)) = (tr 0 n.1).eraseIdx k.1 ∧ (∀ j : Fin 4, j.1 < h.1 → sib i.1 j.1 + 2 ^ j.1 ≤ n.1) := by decide +kernel
  obtain ⟨k, a, h, h1, h2, h3, h4, h5, h6, h7, h8, h9, h10⟩ := T ⟨n, by omega⟩ ⟨i, by omega⟩ hi
  refine ⟨k.1, a.1, h.1, h1, h2, h3, by omega, h4, h5, h6, h7, fun j hj t ht => ?_, h9, fun j hj => h10 ⟨j, by omega⟩ hj⟩
  have hm : t ∈ (tr 0 n).take k.1 := by
    apply List.mem_of_getElem? (i := j)
    rw [List.getElem?_take, if_pos hj]; exact ht
  exact of_decide_eq_true (List.all_eq_true.1 h8 t hm)
theorem At.proofLen {n i k a h : Nat} (A : At n i k a h) : proofLen n i = h + ((tr 0 n).length - 1) := by
  unfold Go.Proofs.Ytnhpilipkeddiaa.proofLen
  rw [A.idx, List.getD_eq_getElem?_getD, A.get]; rfl
theorem At.proofOf {α : Type} (p : α → α → α) (x : Nat → α) {n i k a h : Nat} (A : At n i k a h) : proofOf p x n i = (List.range h).map (fun j => rt p x j (sib i j)) ++ rts p x ((tr 0 n).eraseIdx k) := by
  unfold Go.Proofs.Ytnhpilipkeddiaa.proofOf
  dsimp only
  rw [A.idx, List.getD_eq_getElem?_getD, A.get]; rfl
theorem At.checkVal {n i k a h : Nat} (A : At n i k a h) (c leaf : Int) (l : List Int) : checkVal pr c n i leaf l 0 = foldD c (((l.drop h).take k) ++ climb pr i (lf l) leaf h :: ((l.drop h).drop k)) := by
  unfold Go.Proofs.Ytnhpilipkeddiaa.checkVal
  dsimp only
  rw [A.idx, List.getD_eq_getElem?_getD, A.get]; rfl
/-- the sibling's place in the program's own words -/
theorem sib_words (i j : Nat) (hi : i < 16) (hj : j < 4) : (i / 2 ^ j * 2 ^ j) ^^^ 2 ^ j = sib i j ∧ (i / 2 ^ j * 2 ^ j) / 2 ^ j = i / 2 ^ j ∧ (i / 2 ^ j % 2 = 0 → i / 2 ^ j * 2 ^ j + 2 ^ j = sib i j) ∧ (i / 2 ^ j % 2 = 1 → i / 2 ^ j * 2 ^ j = sib i j + 2 ^ j) ∧ (i &&& 2 ^ j = 0 ↔ i / 2 ^ j % 2 = 0) ∧ i / 2 ^ j * 2 ^ j ≤ 16 := by
  have T : ∀ i : Fin 16, ∀ j : Fin 4, (i.1 / 2 ^ j.1 * 2 ^ j.1) ^^^ 2 ^ j.1 = sib i.1 j.1 ∧ (i.1 / 2 ^ j.1 * 2 ^ j.1) / 2 ^ j.1 = i.1 / 2 ^ j.1 ∧ (i.1 / 2 ^ j.1 % 2 = 0 → i.1 / 2 ^ j.1 * 2 ^ j.1 + 2 ^ j.1 = sib i.1 j.1) ∧ (i.1 / 2 ^ j.1 % 2 = 1 → i.1 / 2 ^ j.1 * 2 ^ j.1 = sib i.1 j.1 + 2 ^ j.1) ∧ (i.1 &&& 2 ^ j.1 = 0 ↔ i.1 / 2 ^ j.1 % 2 = 0) ∧ i.1 / 2 ^ j.1 * 2 ^ j.1 ≤ 16 := by decide +kernel
  exact T ⟨i, hi⟩ ⟨j, hj⟩
theorem pow_lt {j h : Nat} : 2 ^ j < 2 ^ h ↔ j < h := ⟨fun hh => by
  rcases Nat.lt_or_ge j h with h1 | h1
  · exact h1
  · have := Nat.pow_le_pow_right (n := 2) (by decide) h1; omega, fun hh => Nat.pow_lt_pow_right (by decide) hh⟩
theorem erase_take {α : Type} {D : List α} {k j : Nat} {t : α} (ht : D[j]? = some t) (hj : j ≠ k) : (D.take (j + 1)).eraseIdx k = (D.take j).eraseIdx k ++ [t] := by
  have hlt : j < D.length := by
    rcases Nat.lt_or_ge j D.length with h1 | h1
    · exact h1
    · rw [List.getElem?_eq_none h1] at ht; cases ht
  rw [List.getElem?_eq_getElem hlt] at ht
  simp only [Option.some.injEq] at ht
  rw [List.take_succ_eq_append_getElem hlt, ht, List.eraseIdx_append]
  split
  · rfl
  · rename_i h1
    rw [List.length_take] at h1 ⊢
    rw [List.eraseIdx_of_length_le (l := [t]) (by simp; omega), List.eraseIdx_of_length_le (by rw [List.length_take]; omega)]
theorem erase_same {α : Type} {D : List α} {k : Nat} (hk : k < D.length) : (D.take (k + 1)).eraseIdx k = (D.take k).eraseIdx k := by
  rw [List.take_succ_eq_append_getElem hk, List.eraseIdx_append]
  rw [if_neg (by rw [List.length_take]; omega), List.length_take, show k - min k D.length = 0 by omega]
  rw [List.eraseIdx_of_length_le (l := D.take k) (by rw [List.length_take]; omega)]
  simp
end Go.Proofs.Ytnhpilipkeddiaa
