/- The walks of laws on peaks and digests over drawn leaves. -/
import Derived.Test.YtcocknfdafmfnaaDrawC
namespace Go.Proofs.Ytcocknfdafmfnaa
set_option linter.unusedVariables false
open Go.RowKit

theorem small_case (n : Nat) : 1048576 < n ∨ n ≤ 1048576 := by omega
theorem small_cases (n m : Nat) : 1048576 < n ∨ (n ≤ 1048576 ∧ 1048576 < m) ∨ (n ≤ 1048576 ∧ m ≤ 1048576) := by omega
theorem getD_getC {L : List Int} {k : Nat} {x : Int} (h : L[k]? = some x) : L.getD k 0 = x := by rw [List.getD_eq_getElem?_getD, h]; rfl
theorem row_intsC {w : World} {lo hi : Nat} {e : TypeId} {v : Value} {L : List Int} (h : Row w lo hi e v (L.map (Value.int .i64))) :
    ∃ A cap, v = .slice A L.length cap ∧ L.length ≤ cap ∧ cap ≤ maxLen ∧ (0 < L.length → ∃ b off, A = some ⟨b, off, none⟩ ∧ b < hi ∧ ∀ i x, L[i]? = some x → w.cell? ⟨b, off + i, none⟩ = some (.int .i64 x)) := by
  obtain ⟨A, cap, hv, hl, hm, hc⟩ := h.rv
  rw [List.length_map] at hv hl hc
  refine ⟨A, cap, hv, hl, hm, fun h0 => ?_⟩
  obtain ⟨b, off, hA, hb, hcell⟩ := hc h0
  exact ⟨b, off, hA, hb, fun i x hx => hcell i _ (by rw [List.getElem?_map, hx]; rfl)⟩
def DrawnLeaves (w : World) (e : Ending) (w' : World) : Prop := ∃ (v : Value) (L : List Int), e = .returned v ∧ L.length ≤ 28 ∧ leafy L ∧ Row w' w.heap.size w'.heap.size 3 v (L.map (Value.int .i64)) ∧ Below w.heap.size w w'
theorem tdigest_no {L : List Int} (h : leavesB L = false) : tdigest L = -1 := by unfold tdigest; rw [if_neg (by rw [h]; decide)]
theorem tdigest_ok {L : List Int} (h : leavesB L = true) : tdigest L = foldD L.length (tpeaks L) := by unfold tdigest tpeaks; rw [if_pos h, if_pos h]
theorem tpeaks_pos {L : List Int} (h : 0 < (tpeaks L).length) : leavesB L = true ∧ tpeaks L = peaks L := by
  unfold tpeaks at *
  split at h
  · rename_i hb; exact ⟨hb, if_pos hb⟩
  · cases h
/-- the ones of k -/
def pop : Nat → Nat → Nat
  | 0, _ => 0
  | f + 1, k => k % 2 + pop f (k / 2)
theorem pop_ok (n : Nat) (h : n ≤ 16) : (tr 0 n).length = pop 6 n := by
  have : ∀ n : Fin 17, (tr 0 n.1).length = pop 6 n.1 := by decide +kernel
  exact this ⟨n, by omega⟩
theorem pop_le (k : Nat) (h : k ≤ 16) : pop 6 k ≤ 6 := by
  have : ∀ n : Fin 17, pop 6 n.1 ≤ 6 := by decide +kernel
  exact this ⟨k, by omega⟩
theorem pop_step (k : Nat) (h : k ≤ 16) : pop 6 k = k % 2 + pop 6 (k / 2) := by
  have : ∀ n : Fin 17, pop 6 n.1 = n.1 % 2 + pop 6 (n.1 / 2) := by decide +kernel
  exact this ⟨k, by omega⟩
theorem pop_0 : pop 6 0 = 0 := rfl
theorem pow_le5 {s j : Nat} (h : s = 2 ^ j) (hs : s ≤ 16) : j + 1 ≤ 5 := by
  rcases Nat.lt_or_ge j 5 with h1 | h1
  · exact h1
  · have h2 := Nat.pow_le_pow_right (n := 2) (by decide) h1
    rw [← h, show (2 : Nat) ^ 5 = 32 from rfl] at h2; omega
theorem leavesB_take {L : List Int} (h : leavesB L = true) (k : Nat) : leavesB (L.take k) = true := by
  obtain ⟨h16, hd⟩ := leavesB_len h
  unfold leavesB
  rw [digs_take hd k, decide_eq_true (show (L.take k).length ≤ 16 by rw [List.length_take]; omega)]; rfl
theorem take_len1 {D : List Int} (hb : leavesB D = true) (j s : Nat) (h : s = 2 ^ j) (hs : s ≤ D.length) : (tpeaks (D.take s)).length = 1 := by
  obtain ⟨h16, hd⟩ := leavesB_len hb
  have hl : (D.take s).length = s := by rw [List.length_take]; omega
  have hj := pow_le5 h (by omega)
  unfold tpeaks
  rw [if_pos (leavesB_take hb s)]
  unfold peaks rts
  rw [List.length_map, hl, h]
  have : ∀ j : Fin 5, (tr 0 (2 ^ j.1)).length = 1 := by decide +kernel
  exact this ⟨j, by omega⟩
end Go.Proofs.Ytcocknfdafmfnaa
