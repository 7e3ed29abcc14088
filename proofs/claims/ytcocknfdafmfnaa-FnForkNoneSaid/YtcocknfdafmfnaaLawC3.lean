/- The walks of further laws on peaks and digests over drawn leaves. -/
import Derived.Test.YtcocknfdafmfnaaLawC2
import Derived.Test.YtcocknfdafmfnaaTreeLaw
namespace Go.Proofs.Ytcocknfdafmfnaa
set_option linter.unusedVariables false
open Go.RowKit
/-- what a region reads in two cells, and what is kept -/
def LS (w0 : World) (v : Value) (L : List Value) (p0 p1 : Addr) (W : World) : Prop := RV W w0.heap.size v L ∧ Below w0.heap.size w0 W ∧ p0.block < w0.heap.size ∧ p1.block < w0.heap.size
theorem ls_step {w0 w1 w2 : World} {v : Value} {L : List Value} {p0 p1 : Addr} {u0 u1 : Value} (h : w1.cell? p0 = some u0 ∧ w1.cell? p1 = some u1 ∧ LS w0 v L p0 p1 w1) (hb : Below w1.heap.size w1 w2) :
    w2.cell? p0 = some u0 ∧ w2.cell? p1 = some u1 ∧ LS w0 v L p0 p1 w2 := by
  obtain ⟨c0, c1, r, b, l0, l1⟩ := h
  have hs := b.size
  exact ⟨(hb.cell (by omega)).trans c0, (hb.cell (by omega)).trans c1, r.below hb hs, bstep b hb, l0, l1⟩
theorem ls_rv {w0 w1 : World} {v : Value} {L : List Value} {p0 p1 : Addr} {u0 u1 : Value} (h : w1.cell? p0 = some u0 ∧ w1.cell? p1 = some u1 ∧ LS w0 v L p0 p1 w1) : RV w1 w1.heap.size v L := h.2.2.1.mono h.2.2.2.1.size
theorem ls_bel {w0 w1 : World} {v : Value} {L : List Value} {p0 p1 : Addr} {u0 u1 : Value} (h : w1.cell? p0 = some u0 ∧ w1.cell? p1 = some u1 ∧ LS w0 v L p0 p1 w1) : Below w0.heap.size w0 w1 := h.2.2.2.1
theorem pair_take2 {D : List Int} (hb : leavesB D = true) (h2 : 2 ≤ D.length) (x y : Int) (hx : D[0]? = some x) (hy : D[1]? = some y) : tpeaks (D.take 2) = [dpair x y] ∧ tpeaks (D.take 1) = D.take 1 := by
  obtain ⟨h16, hd⟩ := leavesB_len hb
  constructor
  · unfold tpeaks
    rw [if_pos (leavesB_take hb 2), peaks_take 2 h2 h16, dpair_ok (digs_get hx hd) (digs_get hy hd)]
    show [pr (lf D 0) (lf D 1)] = _
    rw [lf_get hx, lf_get hy]
  · unfold tpeaks
    rw [if_pos (leavesB_take hb 1), peaks_take 1 (by omega) h16]
    show [lf D 0] = _
    rw [lf_get hx]
    match D, hx with
    | a :: D, hx => simp at hx; rw [hx]; rfl
theorem leavesB_drop {L : List Int} (h : leavesB L = true) (k : Nat) : leavesB (L.drop k) = true := by
  obtain ⟨h16, hd⟩ := leavesB_len h
  unfold leavesB
  rw [digs_drop hd k, decide_eq_true (show (L.drop k).length ≤ 16 by rw [List.length_drop]; omega)]; rfl
theorem leavesB_of {L : List Int} (h : L.length ≤ 16) (hd : digs L = true) : leavesB L = true := by unfold leavesB; rw [hd, decide_eq_true h]; rfl
theorem digs_set {L : List Int} (hd : digs L = true) {k : Nat} {z : Int} (hz : 0 ≤ z ∧ z ≤ 990) : digs (L.set k z) = true := LR_digs fun n hn => by
  rcases List.mem_or_eq_of_mem_set hn with h | h
  · exact dig_of hd n h
  · rw [h]; exact hz
theorem leavesB_set {L : List Int} (h : leavesB L = true) {k : Nat} {z : Int} (hz : 0 ≤ z ∧ z ≤ 990) : leavesB (L.set k z) = true := by
  obtain ⟨h16, hd⟩ := leavesB_len h
  exact leavesB_of (by rw [List.length_set]; exact h16) (digs_set hd hz)
theorem leavesB_snoc {L : List Int} (h : leavesB L = true) (hl : L.length < 16) {z : Int} (hz : 0 ≤ z ∧ z ≤ 990) : leavesB (L ++ [z]) = true := by
  obtain ⟨h16, hd⟩ := leavesB_len h
  refine leavesB_of (by simp; omega) (LR_digs fun n hn => ?_)
  rcases List.mem_append.1 hn with h | h
  · exact dig_of hd n h
  · rw [List.mem_singleton.1 h]; exact hz
theorem tdigest_pk {L : List Int} (h : leavesB L = true) : tdigest L = foldD L.length (peaks L) := if_pos h
theorem tpeaks_pk {L : List Int} (h : leavesB L = true) : tpeaks L = peaks L := if_pos h
theorem rv_intsC {w : World} {B : Nat} {v : Value} {L : List Int} (h : RV w B v (L.map (Value.int .i64))) :
    ∃ A cap, v = .slice A L.length cap ∧ L.length ≤ cap ∧ cap ≤ maxLen ∧ (0 < L.length → ∃ b off, A = some ⟨b, off, none⟩ ∧ b < B ∧ ∀ i x, L[i]? = some x → w.cell? ⟨b, off + i, none⟩ = some (.int .i64 x)) := by
  obtain ⟨A, cap, hv, hl, hm, hc⟩ := h
  rw [List.length_map] at hv hl hc
  refine ⟨A, cap, hv, hl, hm, fun h0 => ?_⟩
  obtain ⟨b, off, hA, hb, hcell⟩ := hc h0
  exact ⟨b, off, hA, hb, fun i x hx => hcell i _ (by rw [List.getElem?_map, hx]; rfl)⟩
theorem change_digest {D : List Int} (hb : leavesB D = true) {k : Nat} {z d : Int} (hd : D[k]? = some d) (hz : 0 ≤ z ∧ z ≤ 990) (hn : z ≠ d) : tdigest D ≠ tdigest (D.set k z) := by
  obtain ⟨h16, hdd⟩ := leavesB_len hb
  have hk : k < D.length := by
    rcases Nat.lt_or_ge k D.length with h | h
    · exact h
    · rw [List.getElem?_eq_none h] at hd; cases hd
  rw [tdigest_pk hb, tdigest_pk (leavesB_set hb hz), List.length_set]
  exact change_leaf hdd h16 hk hz (by rw [lf_get hd]; exact hn)
theorem idx_of (M n : Nat) (h0 : 0 < n) : ∃ k, k < n ∧ (M : Int) % (n : Int) = (k : Int) ∧ (M : Int).tmod (n : Int) = (k : Int) :=
  ⟨M % n, Nat.mod_lt _ h0, rfl, by rw [Int.tmod_eq_emod_of_nonneg (Int.natCast_nonneg _)]; rfl⟩
end Go.Proofs.Ytcocknfdafmfnaa
