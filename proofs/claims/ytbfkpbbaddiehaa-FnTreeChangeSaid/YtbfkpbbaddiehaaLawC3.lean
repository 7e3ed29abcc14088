/- The walks of further laws on peaks and digests over drawn leaves. -/
import Derived.Test.YtbfkpbbaddiehaaLawC2
import Derived.Test.YtbfkpbbaddiehaaTreeLaw
namespace Go.Proofs.Ytbfkpbbaddiehaa
set_option linter.unusedVariables false
open Go.RowKit
/-- what a region reads in two cells, and what is kept -/
def LS (w0 : World) (v : Value) (L : List Value) (p0 p1 : Addr) (W : World) : Prop := RV W w0.heap.size v L ∧ Below w0.heap.size w0 W ∧ p0.block < w0.heap.size ∧ p1.block < w0.heap.size
theorem ls_step {w0 w1 w2 : World} {v : Value} {L : List Value} {p0 p1 : Addr} {u0 u1 : Value} (h : w1.cell? p0 = some u0 ∧ w1.cell? p1 = some u1 ∧ LS w0 v L p0 p1 w1) (hb : Below w1.heap.size w1 w2) :
    w2.cell? p0 = some u0 ∧ w2.cell? p1 = some u1 ∧ LS w0 v L p0 p1 w2 := by
  obtain ⟨c0, c1, r, b, l0, l1⟩ := h
  have hs := b.size
  exact ⟨(hb.cell (by omega)).trans c0, (hb.cell (by omega)).trans c1, r.below hb hs, bstep b hb, l0, l1⟩
theorem ls_rv {w0 w1 : World} {v : Value} {L : List Value} {p0 p1 : Addr} {u0 u1 : Value} (h : w1.cell? p0 = some u0 ∧ w1.cell? p1 = some u1 ∧ LS w0 v L p0 p1 w1) : RV w1 w1.heap.size v L := h.2.2.1.mono h.2.2.2.1.size
theorem ls_bel {w0 w1 : World} {v : Value} {L : List Value} {p0 p1 : Addr} {u0 u1 : Value} (h : w1.cell? p0 = some u0 ∧ w1.cell? p1 = some u1 ∧ LS w0 v L p0 p1 w1) : Below w0.heap.size w0 w1 := h.2.2.2.1
theorem pair_take2 {D : List Int} (hb : leavesB D = true) (h2 : 2 ≤ D.length) (x y : Int) (hx : D[0]? = some x) (hy : D[1]? = some y) : tpeaks (D.take 2) = [dpair x y] ∧ tpeaks (D.take 1) = D.take 1 := by
  obtain ⟨h16, hd⟩ := leavesB_len hb
  constructor
  · unfold tpeaks
    rw [if_pos (leavesB_take hb 2), peaks_take 2 h2 h16, dpair_ok (digs_get hx hd) (digs_get hy hd)]
    show [pr (lf D 0) (lf D 1)] = _
    rw [lf_get hx, lf_get hy]
  · unfold tpeaks
    rw [if_pos (leavesB_take hb 1), peaks_take 1 (by omega) h16]
    show [lf D 0] = _
    rw [lf_get hx]
    match D, hx with
    | a :: D, hx => simp at hx; rw [hx]; rfl
theorem other_anyC (d k : Int) (w : World) (d0 : 0 ≤ d) (d1 : d ≤ 990) (k0 : 0 ≤ k) (k1 : k ≤ 2097152) : Calls Try.prog 24 #[.int .i64 d, .int .i64 k] w fun e w' => e = .returned (.int .i64 (other d k)) ∧ w = w' := by
  go_enter Try.func24, Try.ntmps24
  go_wp2
  go_ret
  exact ⟨rfl, rfl⟩
theorem leavesB_drop {L : List Int} (h : leavesB L = true) (k : Nat) : leavesB (L.drop k) = true := by
  obtain ⟨h16, hd⟩ := leavesB_len h
  unfold leavesB
  rw [digs_drop hd k, decide_eq_true (show (L.drop k).length ≤ 16 by rw [List.length_drop]; omega)]; rfl
theorem leavesB_of {L : List Int} (h : L.length ≤ 16) (hd : digs L = true) : leavesB L = true := by unfold leavesB; rw [hd, decide_eq_true h]; rfl
theorem digs_set {L : List Int} (hd : digs L = true) {k : Nat} {z : Int} (hz : 0 ≤ z ∧ z ≤ 990) : digs (L.set k z) = true := LR_digs fun n hn => by
  rcases List.mem_or_eq_of_mem_set hn with h | h
  · exact dig_of hd n h
  · rw [h]; exact hz
theorem leavesB_set {L : List Int} (h : leavesB L = true) {k : Nat} {z : Int} (hz : 0 ≤ z ∧ z ≤ 990) : leavesB (L.set k z) = true := by
  obtain ⟨h16, hd⟩ := leavesB_len h
  exact leavesB_of (by rw [List.length_set]; exact h16) (digs_set hd hz)
theorem leavesB_snoc {L : List Int} (h : leavesB L = true) (hl : L.length < 16) {z : Int} (hz : 0 ≤ z ∧ z ≤ 990) : leavesB (L ++ [z]) = true := by
  obtain ⟨h16, hd⟩ := leavesB_len h
  refine leavesB_of (by simp; omega) (LR_digs fun n hn => ?_)
  rcases List.mem_append.1 hn with h | h
  · exact dig_of hd n h
  · rw [List.mem_singleton.1 h]; exact hz
theorem tdigest_pk {L : List Int} (h : leavesB L = true) : tdigest L = foldD L.length (peaks L) := if_pos h
theorem tpeaks_pk {L : List Int} (h : leavesB L = true) : tpeaks L = peaks L := if_pos h
theorem rv_intsC {w : World} {B : Nat} {v : Value} {L : List Int} (h : RV w B v (L.map (Value.int .i64))) :
    ∃ A cap, v = .slice A L.length cap ∧ L.length ≤ cap ∧ cap ≤ maxLen ∧ (0 < L.length → ∃ b off, A = some ⟨b, off, none⟩ ∧ b < B ∧ ∀ i x, L[i]? = some x → w.cell? ⟨b, off + i, none⟩ = some (.int .i64 x)) := by
  obtain ⟨A, cap, hv, hl, hm, hc⟩ := h
  rw [List.length_map] at hv hl hc
  refine ⟨A, cap, hv, hl, hm, fun h0 => ?_⟩
  obtain ⟨b, off, hA, hb, hcell⟩ := hc h0
  exact ⟨b, off, hA, hb, fun i x hx => hcell i _ (by rw [List.getElem?_map, hx]; rfl)⟩
theorem change_digest {D : List Int} (hb : leavesB D = true) {k : Nat} {z d : Int} (hd : D[k]? = some d) (hz : 0 ≤ z ∧ z ≤ 990) (hn : z ≠ d) : tdigest D ≠ tdigest (D.set k z) := by
  obtain ⟨h16, hdd⟩ := leavesB_len hb
  have hk : k < D.length := by
    rcases Nat.lt_or_ge k D.length with h | h
    · exact h
    · rw [List.getElem?_eq_none h] at hd; cases hd
  rw [tdigest_pk hb, tdigest_pk (leavesB_set hb hz), List.length_set]
  exact change_leaf hdd h16 hk hz (by rw [lf_get hd]; exact hn)
theorem idx_of (M n : Nat) (h0 : 0 < n) : ∃ k, k < n ∧ (M : Int) % (n : Int) = (k : Int) ∧ (M : Int).tmod (n : Int) = (k : Int) :=
  ⟨M % n, Nat.mod_lt _ h0, rfl, by rw [Int.tmod_eq_emod_of_nonneg (Int.natCast_nonneg _)]; rfl⟩
set_option maxHeartbeats 4000000 in
set_option maxRecDepth 100000 in
theorem walk_FnPeaksPair (v0 : Value) (L0 : List Int) (w : World) (r0 : RV w w.heap.size v0 (L0.map (Value.int .u8))) (b0 : ∀ n ∈ L0, (Lit.int .u8 n).wf = true) :
    Calls Try.prog 8 #[v0] w fun e w' => e = .returned (.bool true) ∧ Below w.heap.size w w' := by
  have rr0 := r0
  obtain ⟨A0, cap0, rfl, hl0, hm0, hc0⟩ := r0
  rw [List.length_map] at rr0 hl0 ⊢
  clear hc0
  unfold maxLen at hm0
  rcases small_case L0.length with hb | hb0
  · go_enter Try.func8, Try.ntmps8
    go_wp2_with fail
    go_ret
    exact ⟨rfl, Below.refl _ _⟩
  · go_enter Try.func8, Try.ntmps8
    (go_wp2_with fail; (with_reducible refine (DrawTreePeaks_any _ L0 _ rr0 b0).mono ?_))
    rintro _ w1 ⟨v, D, rfl, hD, hlf, rD, bb⟩
    have s1 := bb.size
    obtain ⟨AD, cD, rfl, hDl, hDm, hDc⟩ := row_intsC rD
    have rv := RV.mono (B' := w1.heap.size) rD.rv (by omega)
    have hrl0 := tpeaks_len D
    have hrl : (tpeaks D).length ≤ 33554432 := by omega
    clear hDc
    (go_wp2_with fail; (with_reducible refine (iTreePeaks_any _ D _ rv (by omega)).mono ?_))
    rintro _ w2 ⟨v2, rfl, r2, b2⟩
    have s2 := b2.size
    replace rv := RV.mono (B' := w2.heap.size) (rv.below b2 (by omega)) (by omega)
    (go_wp2_with fail; (with_reducible refine (sTreePeaks_any _ D _ rv (by omega)).mono ?_))
    rintro _ w3 ⟨v3, rfl, r3, b3⟩
    have s3 := b3.size
    replace r2 := r2.next b3 (by omega)
    replace rv := RV.mono (B' := w3.heap.size) (rv.below b3 (by omega)) (by omega)
    (go_wp2_with fail; (with_reducible refine (sameInts_any _ _ (tpeaks D) (tpeaks D) _ _ true (RV.mono (B' := w3.heap.size) r2.rv (by omega)) (RV.mono (B' := w3.heap.size) r3.rv (by omega)) (Nat.le_refl _) hrl (eqI_self _)).mono ?_))
    rintro _ w4 ⟨rfl, b4⟩
    have s4 := b4.size
    replace r2 := r2.next b4 (by omega)
    replace r3 := r3.next b4 (by omega)
    replace rv := RV.mono (B' := w4.heap.size) (rv.below b4 (by omega)) (by omega)
    have bb4 := bstep (bstep (bstep bb b2) b3) b4
    clear bb b2 b3 b4
    obtain ⟨A2, c2, hv2, hl2, hm2, hc2⟩ := row_intsC r2
    subst hv2
    clear hc2
    have rD := rv
    obtain ⟨AD', cD', hvD, _, _, hDc⟩ := rv
    rw [List.length_map] at hvD hDc
    simp only [Value.slice.injEq] at hvD
    obtain ⟨rfl, _, rfl⟩ := hvD
    have hDc' : 0 < D.length → ∃ b off, AD = some ⟨b, off, none⟩ ∧ b < w4.heap.size ∧ ∀ i x, D[i]? = some x → w4.cell? ⟨b, off + i, none⟩ = some (.int .i64 x) := fun h0 => by
      obtain ⟨b, off, e1, e2, e3⟩ := hDc h0
      exact ⟨b, off, e1, e2, fun i x hx => e3 i _ (by rw [List.getElem?_map, hx]; rfl)⟩
    have rv := rD
    clear hDc rD
    by_cases hD2 : D.length < 2
    · go_wp2_with fail
      (go_wp2_with fail; (with_reducible refine (sameInts_any _ _ (tpeaks D) (tpeaks D) _ _ true (RV.mono (B' := w4.heap.size) r2.rv (by omega)) (RV.mono (B' := w4.heap.size) r3.rv (by omega)) (Nat.le_refl _) hrl (eqI_self _)).mono ?_))
      rintro _ w5 ⟨rfl, b5⟩
      go_wp2_with fail
      go_ret
      exact ⟨rfl, bstep bb4 b5⟩
    · by_cases h0 : (tpeaks D).length = 0
      · have hz : ((((tpeaks D).length : Nat) : Int) == 0) = true := beq_iff_eq.2 (by omega)
        clear h0
        (go_wp2_with fail; (with_reducible refine (sameInts_any _ _ (tpeaks D) (tpeaks D) _ _ true (RV.mono (B' := w4.heap.size) r2.rv (by omega)) (RV.mono (B' := w4.heap.size) r3.rv (by omega)) (Nat.le_refl _) hrl (eqI_self _)).mono ?_))
        rintro _ w5 ⟨rfl, b5⟩
        go_wp2_with fail
        go_ret
        exact ⟨rfl, bstep bb4 b5⟩
      · have hz : ((((tpeaks D).length : Nat) : Int) == 0) = false := beq_eq_false_iff_ne.2 (by omega)
        obtain ⟨hb, hpk⟩ := tpeaks_pos (L := D) (by omega)
        obtain ⟨d16, dd⟩ := leavesB_len hb
        obtain ⟨x, hx, _⟩ := get_int (L := D) (k := 0) (by omega)
        obtain ⟨y, hy, _⟩ := get_int (L := D) (k := 1) (by omega)
        obtain ⟨p2, p1⟩ := pair_take2 hb (by omega) x y hx hy
        have HP2 := hid' p2
        have HP1 := hid' p1
        have HX := hid' hx
        have HY := hid' hy
        clear p2 p1 hx hy hpk
        obtain ⟨b, off, rfl, hbB, hcell⟩ := hDc' (by omega)
        have hcx : w4.cell? ⟨b, off, none⟩ = some (.int .i64 x) := hcell 0 x HX.out
        have hcy : w4.cell? ⟨b, off + 1, none⟩ = some (.int .i64 y) := hcell 1 y HY.out
        have S0 : w4.drew.cell? ⟨b, off, none⟩ = some (.int .i64 x) ∧ w4.drew.cell? ⟨b, off + 1, none⟩ = some (.int .i64 y) ∧ LS w4 (.slice (some ⟨b, off, none⟩) D.length cD) (D.map (Value.int .i64)) ⟨b, off, none⟩ ⟨b, off + 1, none⟩ w4.drew := ⟨hcx, hcy, rv, (Below.refl _ _).drew, hbB, hbB⟩
        have I2 := hid' (fun (W : World) (r : W.cell? ⟨b, off, none⟩ = some (.int .i64 x) ∧ W.cell? ⟨b, off + 1, none⟩ = some (.int .i64 y) ∧ LS w4 (.slice (some ⟨b, off, none⟩) D.length cD) (D.map (Value.int .i64)) ⟨b, off, none⟩ ⟨b, off + 1, none⟩ W) =>
          iTreePeaks_any (.slice (some ⟨b, off, none⟩) 2 cD) (D.take 2) W (by rw [List.map_take]; exact rv_take (k := 2) (ls_rv r) (by rw [List.length_map]; omega)) (by rw [List.length_take]; omega))
        have I1 := hid' (fun (W : World) (r : W.cell? ⟨b, off, none⟩ = some (.int .i64 x) ∧ W.cell? ⟨b, off + 1, none⟩ = some (.int .i64 y) ∧ LS w4 (.slice (some ⟨b, off, none⟩) D.length cD) (D.map (Value.int .i64)) ⟨b, off, none⟩ ⟨b, off + 1, none⟩ W) =>
          iTreePeaks_any (.slice (some ⟨b, off, none⟩) 1 cD) (D.take 1) W (by rw [List.map_take]; exact rv_take (k := 1) (ls_rv r) (by rw [List.length_map]; omega)) (by rw [List.length_take]; omega))
        have I3 := hid' (fun (W : World) (r : W.cell? ⟨b, off, none⟩ = some (.int .i64 x) ∧ W.cell? ⟨b, off + 1, none⟩ = some (.int .i64 y) ∧ LS w4 (.slice (some ⟨b, off, none⟩) D.length cD) (D.map (Value.int .i64)) ⟨b, off, none⟩ ⟨b, off + 1, none⟩ W) (u : Value) (hu : RV W W.heap.size u ((D.take 1).map (Value.int .i64))) =>
          sameInts_any u (.slice (some ⟨b, off, none⟩) 1 cD) (D.take 1) (D.take 1) W.heap.size W true hu (by rw [List.map_take]; exact rv_take (k := 1) (ls_rv r) (by rw [List.length_map]; omega)) (Nat.le_refl _) (by rw [List.length_take]; omega) (eqI_self _))
        simp only [HP2.out] at I2
        simp only [HP1.out] at I1
        have hcap1 : (1 : Int) ≤ (cD : Int) := by omega
        have hcap2 : (2 : Int) ≤ (cD : Int) := by omega
        have hlen1 : D ≠ [] := by rintro rfl; simp at hD2
        have hlen0 : 0 < D.length := by omega
        have hlen2 : (1 : Int) < (D.length : Int) := by omega
        clear hDc' hcell hcx hcy HP1 HP2 rD rv r2 r3
        go_wp2_with fail
        go_region_held3 (fun W => W.cell? ⟨b, off, none⟩ = some (.int .i64 x) ∧ W.cell? ⟨b, off + 1, none⟩ = some (.int .i64 y) ∧ LS w4 (.slice (some ⟨b, off, none⟩) D.length cD) (D.map (Value.int .i64)) ⟨b, off, none⟩ ⟨b, off + 1, none⟩ W)
          (first | (exact ls_step (by assumption) b8) | (exact ls_step (by assumption) b7) | (exact ls_step (by assumption) b6) | (exact ls_step (by assumption) (bnew _ _)) | (exact ls_step (by assumption) b5) | (exact S0) | assumption)
          ((first
            | (go_at_call 14; (with_reducible refine (I2.out _ (by assumption)).mono ?_); rintro _ w5 ⟨v5, rfl, r5, b5⟩)
            | (go_at_call 14; (with_reducible refine (I1.out _ (by assumption)).mono ?_); rintro _ w7 ⟨v7, rfl, r7, b7⟩)
            | (go_at_call 22; (with_reducible refine (iDigestPair_any _ _ _).mono ?_); rintro _ _ ⟨rfl, rfl⟩)
            | (go_at_call 21; (with_reducible refine (I3.out _ (by assumption) _ r7.rv).mono ?_); rintro _ w8 ⟨rfl, b8⟩)
            | (go_at_call 21; (with_reducible refine (sameInts_any _ _ [dpair x y] [dpair x y] _ _ true (RV.mono (r5.next (bnew w5 _) (Nat.le_refl _)).rv (by simp)) (rv_new w5 _ _ [.int .i64 (dpair x y)] 1 rfl (fun i u hu => by simpa using hu) (by simp [maxLen])) (Nat.le_refl _) (by simp) (eqI_self _)).mono ?_); rintro _ w6 ⟨rfl, b6⟩)))
        go_wp2_with fail
        go_ret
        exact ⟨rfl, bstep bb4 (ls_bel (by assumption))⟩
set_option maxHeartbeats 4000000 in
set_option maxRecDepth 100000 in
theorem walk_FnPeaksJoin (v0 : Value) (L0 : List Int) (w : World) (r0 : RV w w.heap.size v0 (L0.map (Value.int .u8))) (b0 : ∀ n ∈ L0, (Lit.int .u8 n).wf = true) :
    Calls Try.prog 7 #[v0] w fun e w' => e = .returned (.bool true) ∧ Below w.heap.size w w' := by
  have rr0 := r0
  obtain ⟨A0, cap0, rfl, hl0, hm0, hc0⟩ := r0
  rw [List.length_map] at rr0 hl0 ⊢
  clear hc0
  unfold maxLen at hm0
  rcases small_case L0.length with hb | hb0
  · go_enter Try.func7, Try.ntmps7
    go_wp2_with fail
    go_ret
    exact ⟨rfl, Below.refl _ _⟩
  · go_enter Try.func7, Try.ntmps7
    (go_wp2_with fail; (with_reducible refine (DrawTreePeaks_any _ L0 _ rr0 b0).mono ?_))
    rintro _ w1 ⟨v, D, rfl, hD, hlf, rD, bb⟩
    have s1 := bb.size
    obtain ⟨AD, cD, rfl, hDl, hDm, hDc⟩ := row_intsC rD
    have rv := RV.mono (B' := w1.heap.size) rD.rv (by omega)
    have hrl0 := tpeaks_len D
    have hrl : (tpeaks D).length ≤ 33554432 := by omega
    clear hDc
    (go_wp2_with fail; (with_reducible refine (iTreePeaks_any _ D _ rv (by omega)).mono ?_))
    rintro _ w2 ⟨v2, rfl, r2, b2⟩
    have s2 := b2.size
    replace rv := RV.mono (B' := w2.heap.size) (rv.below b2 (by omega)) (by omega)
    (go_wp2_with fail; (with_reducible refine (sTreePeaks_any _ D _ rv (by omega)).mono ?_))
    rintro _ w3 ⟨v3, rfl, r3, b3⟩
    have s3 := b3.size
    replace r2 := r2.next b3 (by omega)
    replace rv := RV.mono (B' := w3.heap.size) (rv.below b3 (by omega)) (by omega)
    (go_wp2_with fail; (with_reducible refine (sameInts_any _ _ (tpeaks D) (tpeaks D) _ _ true (RV.mono (B' := w3.heap.size) r2.rv (by omega)) (RV.mono (B' := w3.heap.size) r3.rv (by omega)) (Nat.le_refl _) hrl (eqI_self _)).mono ?_))
    rintro _ w4 ⟨rfl, b4⟩
    have s4 := b4.size
    replace r2 := r2.next b4 (by omega)
    replace r3 := r3.next b4 (by omega)
    replace rv := RV.mono (B' := w4.heap.size) (rv.below b4 (by omega)) (by omega)
    have bb4 := bstep (bstep (bstep bb b2) b3) b4
    clear bb b2 b3 b4
    by_cases h1 : (tpeaks D).length = 1
    · by_cases hD2 : D.length < 2
      · obtain ⟨A2, c2, hv2, hl2, hm2, hc2⟩ := row_intsC r2
        subst hv2
        have hz : ((((tpeaks D).length : Nat) : Int) != 1) = false := by rw [h1]; rfl
        clear hc2 h1
        (go_wp2_with fail; (with_reducible refine (sameInts_any _ _ (tpeaks D) (tpeaks D) _ _ true (RV.mono (B' := w4.heap.size) r2.rv (by omega)) (RV.mono (B' := w4.heap.size) r3.rv (by omega)) (Nat.le_refl _) hrl (eqI_self _)).mono ?_))
        rintro _ w5 ⟨rfl, b5⟩
        go_wp2_with fail
        go_ret
        exact ⟨rfl, bstep bb4 b5⟩
      · obtain ⟨hb, hpk⟩ := tpeaks_pos (L := D) (by omega)
        obtain ⟨d16, dd⟩ := leavesB_len hb
        obtain ⟨pa, pb, e1, e2, e3⟩ := peaks_join d16 (by omega) (by rw [← hpk]; exact h1)
        obtain ⟨h, hh⟩ : ∃ h, D.length / 2 = h := ⟨_, rfl⟩
        rw [hh] at e1 e2
        have q1 : tpeaks (D.take h) = [pa] := (tpeaks_pk (leavesB_take hb h)).trans e1
        have q2 : tpeaks (D.drop h) = [pb] := (tpeaks_pk (leavesB_drop hb h)).trans e2
        have q3 : tpeaks D = [pr pa pb] := hpk.trans e3
        have da : digB pa = true := by have := tpeaks_digs (D.take h); rw [q1] at this; exact digs_get (k := 0) (L := [pa]) rfl this
        have db : digB pb = true := by have := tpeaks_digs (D.drop h); rw [q2] at this; exact digs_get (k := 0) (L := [pb]) rfl this
        have he : dpair pa pb = pr pa pb := dpair_ok da db
        rw [q3] at r2 r3 hrl
        obtain ⟨A2, c2, hv2, hl2, hm2, hc2⟩ := row_intsC r2
        subst hv2
        have f1 : (D.length : Int).tdiv 2 = (h : Int) := by rw [Int.tdiv_eq_ediv_of_nonneg (by omega)]; omega
        have f2 : (D.length : Int) / 2 = (h : Int) := by omega
        have R1 := rv_take (k := h) rv (by rw [List.length_map]; omega)
        rw [← List.map_take] at R1
        obtain ⟨AD', cD', hvD, _, _, hDc⟩ := rv_intsC rv
        simp only [Value.slice.injEq] at hvD
        obtain ⟨rfl, _, rfl⟩ := hvD
        obtain ⟨b, off, rfl, hbB, _⟩ := hDc (by omega)
        have R2 := rv_drop (k := h) rv (by rw [List.length_map]; omega) (rfl : cD - h = cD - h)
        rw [← List.map_drop] at R2
        have g1 : (h : Int) ≤ (cD : Int) := by omega
        have g2 : (h : Int) ≤ (D.length : Int) := by omega
        have Q1 := hid' q1
        have Q2 := hid' q2
        have HE := hid' he
        have HL2 := hid' hD2
        clear q1 q2 q3 he hDc hc2 hpk e1 e2 e3 h1 hh
        (go_wp2_with fail; (with_reducible refine (iTreePeaks_any _ (D.take h) _ R1 (by rw [List.length_take]; omega)).mono ?_))
        rintro _ w5 ⟨v5, rfl, r5, b5⟩
        rw [Q1.out] at r5
        have s5 := b5.size
        replace R2 := RV.mono (B' := w5.heap.size) (R2.below b5 (Nat.le_refl _)) s5
        replace r2 := r2.next b5 (by omega)
        (go_wp2_with fail; (with_reducible refine (iTreePeaks_any _ (D.drop h) _ R2 (by rw [List.length_drop]; omega)).mono ?_))
        rintro _ w6 ⟨v6, rfl, r6, b6⟩
        rw [Q2.out] at r6
        replace r5 := r5.next b6 (by omega)
        replace r2 := r2.next b6 (by omega)
        obtain ⟨A5, c5, hv5, hl5, hm5, hc5⟩ := row_intsC r5
        obtain ⟨A6, c6, hv6, hl6, hm6, hc6⟩ := row_intsC r6
        obtain ⟨A2', c2', hv2', hl2', hm2', hc2'⟩ := row_intsC r2
        subst hv5 hv6
        simp only [Value.slice.injEq] at hv2'
        obtain ⟨rfl, _, rfl⟩ := hv2'
        obtain ⟨b2, o2, rfl, _, x2⟩ := hc2' (by simp)
        obtain ⟨b3, o3, rfl, _, x3⟩ := hc5 (by simp)
        obtain ⟨b4, o4, rfl, _, x4⟩ := hc6 (by simp)
        have y2 : w6.cell? ⟨b2, o2, none⟩ = some (.int .i64 (pr pa pb)) := x2 0 _ rfl
        have y3 : w6.cell? ⟨b3, o3, none⟩ = some (.int .i64 pa) := x3 0 _ rfl
        have y4 : w6.cell? ⟨b4, o4, none⟩ = some (.int .i64 pb) := x4 0 _ rfl
        have bb6 := bstep (bstep bb4 b5) b6
        clear x2 x3 x4 hc5 hc6 hc2' r2 r3 r5 r6 R1 R2 rv rD
        have I := hid' (fun (n : Nat) => iDigestPair_any pa pb (w6.drewN n))
        rw [HE.out] at I
        go_wp2_with fail
        go_quiet ((go_at_call 22; go_must (exact quietL (I.out _))))
        go_wp2_with fail
        go_ret
        exact ⟨retB (by simp), below_drewN bb6 _⟩
    · obtain ⟨A2, c2, hv2, hl2, hm2, hc2⟩ := row_intsC r2
      subst hv2
      have hz : ((((tpeaks D).length : Nat) : Int) != 1) = true := by rw [bne_iff_ne]; omega
      clear hc2
      (go_wp2_with fail; (with_reducible refine (sameInts_any _ _ (tpeaks D) (tpeaks D) _ _ true (RV.mono (B' := w4.heap.size) r2.rv (by omega)) (RV.mono (B' := w4.heap.size) r3.rv (by omega)) (Nat.le_refl _) hrl (eqI_self _)).mono ?_))
      rintro _ w5 ⟨rfl, b5⟩
      go_wp2_with fail
      go_ret
      exact ⟨rfl, bstep bb4 b5⟩
set_option maxHeartbeats 4000000 in
set_option maxRecDepth 100000 in
theorem walk_FnPeaksGrow (v0 : Value) (L0 : List Int) (v1 : Value) (L1 : List Int) (w : World) (r0 : RV w w.heap.size v0 (L0.map (Value.int .u8))) (b0 : ∀ n ∈ L0, (Lit.int .u8 n).wf = true) (r1 : RV w w.heap.size v1 (L1.map (Value.int .u8))) (_b1 : ∀ n ∈ L1, (Lit.int .u8 n).wf = true) :
    Calls Try.prog 6 #[v0, v1] w fun e w' => e = .returned (.bool true) ∧ Below w.heap.size w w' := by
  have rr0 := r0
  obtain ⟨A0, cap0, rfl, hl0, hm0, hc0⟩ := r0
  obtain ⟨A1, cap1, rfl, hl1, hm1, hc1⟩ := r1
  rw [List.length_map] at rr0 hl0 hl1 ⊢
  rw [List.length_map]
  clear hc0 hc1
  unfold maxLen at hm0 hm1
  obtain ⟨M, hM⟩ : ∃ M, M = L1.length := ⟨_, rfl⟩
  rw [← hM] at hl1 ⊢
  clear hM
  rcases small_cases L0.length M with hb | hb | ⟨hb0, hb1⟩
  · go_enter Try.func6, Try.ntmps6
    go_wp2_with fail
    go_ret
    exact ⟨rfl, Below.refl _ _⟩
  · go_enter Try.func6, Try.ntmps6
    go_wp2_with fail
    go_ret
    exact ⟨rfl, Below.refl _ _⟩
  · go_enter Try.func6, Try.ntmps6
    (go_wp2_with fail; (with_reducible refine (DrawTreePeaks_any _ L0 _ rr0 b0).mono ?_))
    rintro _ w1 ⟨v, D, rfl, hD, hlf, rD, bb⟩
    have s1 := bb.size
    obtain ⟨AD, cD, rfl, hDl, hDm, hDc⟩ := row_intsC rD
    have rv := RV.mono (B' := w1.heap.size) rD.rv (by omega)
    have hrl0 := tpeaks_len D
    have hrl : (tpeaks D).length ≤ 33554432 := by omega
    clear hDc
    (go_wp2_with fail; (with_reducible refine (iTreePeaks_any _ D _ rv (by omega)).mono ?_))
    rintro _ w2 ⟨v2, rfl, r2, b2⟩
    have s2 := b2.size
    replace rv := RV.mono (B' := w2.heap.size) (rv.below b2 (by omega)) (by omega)
    (go_wp2_with fail; (with_reducible refine (sTreePeaks_any _ D _ rv (by omega)).mono ?_))
    rintro _ w3 ⟨v3, rfl, r3, b3⟩
    have s3 := b3.size
    replace r2 := r2.next b3 (by omega)
    replace rv := RV.mono (B' := w3.heap.size) (rv.below b3 (by omega)) (by omega)
    (go_wp2_with fail; (with_reducible refine (sameInts_any _ _ (tpeaks D) (tpeaks D) _ _ true (RV.mono (B' := w3.heap.size) r2.rv (by omega)) (RV.mono (B' := w3.heap.size) r3.rv (by omega)) (Nat.le_refl _) hrl (eqI_self _)).mono ?_))
    rintro _ w4 ⟨rfl, b4⟩
    have s4 := b4.size
    replace r2 := r2.next b4 (by omega)
    replace r3 := r3.next b4 (by omega)
    replace rv := RV.mono (B' := w4.heap.size) (rv.below b4 (by omega)) (by omega)
    have bb4 := bstep (bstep (bstep bb b2) b3) b4
    clear bb b2 b3 b4
    by_cases h1 : (tpeaks D).length = 0
    · obtain ⟨A2, c2, hv2, hl2, hm2, hc2⟩ := row_intsC r2
      subst hv2
      have hz : ((((tpeaks D).length : Nat) : Int) == 0) = true := by rw [h1]; rfl
      clear hc2 h1
      (go_wp2_with fail; (with_reducible refine (sameInts_any _ _ (tpeaks D) (tpeaks D) _ _ true (RV.mono (B' := w4.heap.size) r2.rv (by omega)) (RV.mono (B' := w4.heap.size) r3.rv (by omega)) (Nat.le_refl _) hrl (eqI_self _)).mono ?_))
      rintro _ w5 ⟨rfl, b5⟩
      go_wp2_with fail
      go_ret
      exact ⟨rfl, bstep bb4 b5⟩
    · obtain ⟨hb, hpk⟩ := tpeaks_pos (L := D) (by omega)
      obtain ⟨d16, dd⟩ := leavesB_len hb
      have hz : ((((tpeaks D).length : Nat) : Int) == 0) = false := beq_eq_false_iff_ne.2 (by omega)
      by_cases h2 : D.length % 2 = 1
      · obtain ⟨A2, c2, hv2, hl2, hm2, hc2⟩ := row_intsC r2
        subst hv2
        have e1 : (D.length : Int).tmod 2 = 1 := by rw [Int.tmod_eq_emod_of_nonneg (by omega)]; omega
        have e2 : (D.length : Int) % 2 = 1 := by omega
        clear hc2 h2 hpk
        (go_wp2_with fail; (with_reducible refine (sameInts_any _ _ (tpeaks D) (tpeaks D) _ _ true (RV.mono (B' := w4.heap.size) r2.rv (by omega)) (RV.mono (B' := w4.heap.size) r3.rv (by omega)) (Nat.le_refl _) hrl (eqI_self _)).mono ?_))
        rintro _ w5 ⟨rfl, b5⟩
        go_wp2_with fail
        go_ret
        exact ⟨rfl, bstep bb4 b5⟩
      · have e1 : (D.length : Int).tmod 2 = 0 := by rw [Int.tmod_eq_emod_of_nonneg (by omega)]; omega
        have e2 : (D.length : Int) % 2 = 0 := by omega
        by_cases h3 : D.length = 16
        · obtain ⟨A2, c2, hv2, hl2, hm2, hc2⟩ := row_intsC r2
          subst hv2
          have hz3 : ((D.length : Int) == 16) = true := by rw [h3]; rfl
          clear hc2 h2 hpk h3
          (go_wp2_with fail; (with_reducible refine (sameInts_any _ _ (tpeaks D) (tpeaks D) _ _ true (RV.mono (B' := w4.heap.size) r2.rv (by omega)) (RV.mono (B' := w4.heap.size) r3.rv (by omega)) (Nat.le_refl _) hrl (eqI_self _)).mono ?_))
          rintro _ w5 ⟨rfl, b5⟩
          go_wp2_with fail
          go_ret
          exact ⟨rfl, bstep bb4 b5⟩
        · have hz3 : ((D.length : Int) == 16) = false := beq_eq_false_iff_ne.2 (by omega)
          obtain ⟨x, hx⟩ : ∃ x : Int, (M : Int) % 991 = x := ⟨_, rfl⟩
          have hx0 : 0 ≤ x := by omega
          have hx1 : x ≤ 990 := by omega
          have hx2 : (M : Int).tmod 991 = x := by rw [Int.tmod_eq_emod_of_nonneg (by omega)]; exact hx
          have hg : tpeaks (D ++ [x]) = tpeaks D ++ [x] := by
            rw [tpeaks_pk (leavesB_snoc hb (by omega) ⟨hx0, hx1⟩), tpeaks_pk hb]
            exact peaks_grow x (by omega) (by omega)
          have HG := hid' hg
          obtain ⟨j0, ji, jz0, jz1, jz2⟩ := info_parts infoInt
          have rv' : RV (w4.alloc (.cells #[] 3)) w4.heap.size (.slice AD D.length cD) (D.map (Value.int .i64)) := rv.below (bnew w4 _) (Nat.le_refl _)
          obtain ⟨A2, c2, hv2, hl2, hm2, hc2⟩ := row_intsC r2
          subst hv2
          clear hg hpk h2 h3 hc2
          go_wp2_with (at_builtin; first | (refine wpList_append_rv _ rfl _ _ 22 rfl w4.heap.size 3 j0 (.int .i64 0) 8 Try.underlying22 ji jz0 jz1 jz2 rfl _ _ rfl (own_empty (Nat.le_refl w4.heap.size)) _ rfl _ _ rv' (one_ints _) (by rw [List.length_map]; simp; omega) (by decide) (by simp) ?_; intro v5 w5 o5 b5; simp only [List.nil_append] at o5) | (refine wpList_push _ rfl _ _ 22 rfl w4.heap.size 3 j0 (.int .i64 0) 8 Try.underlying22 ji jz0 jz1 jz2 rfl _ _ rfl o5 _ rfl rfl (by rw [List.length_map]; omega) (by decide) (by have := b5.size; simp at this; omega) ?_; intro v6 w6 o6 b6))
          have c6 : Below w4.heap.size w4 w6 := (((Below.refl _ _).alloc (Nat.le_refl _) _).trans b5).trans b6
          have o6' : OW w6 w4.heap.size 3 v6 ((D ++ [x]).map (Value.int .i64)) := by rw [List.map_append]; exact o6
          have s6 := c6.size
          (go_wp2_with fail; (with_reducible refine (iTreePeaks_any v6 (D ++ [x]) _ o6'.rv (by simp; omega)).mono ?_))
          rintro _ w7 ⟨v7, rfl, r7, b7⟩
          rw [HG.out] at r7
          have s7 := b7.size
          replace r2 := r2.next (c6.trans (b7.mono s6)) (by omega)
          have rv'' : RV (w7.alloc (.cells #[] 3)) w7.heap.size (.slice A2 (tpeaks D).length c2) ((tpeaks D).map (Value.int .i64)) := RV.mono (r2.rv.below (bnew w7 _) (by omega)) (by omega)
          go_wp2_with (at_builtin; first | (refine wpList_append_rv _ rfl _ _ 22 rfl w7.heap.size 3 j0 (.int .i64 0) 8 Try.underlying22 ji jz0 jz1 jz2 rfl _ _ rfl (own_empty (Nat.le_refl w7.heap.size)) _ rfl _ _ rv'' (one_ints _) (by rw [List.length_map]; simp; omega) (by decide) (by simp) ?_; intro v8 w8 o8 b8; simp only [List.nil_append] at o8) | (refine wpList_push _ rfl _ _ 22 rfl w7.heap.size 3 j0 (.int .i64 0) 8 Try.underlying22 ji jz0 jz1 jz2 rfl _ _ rfl o8 _ rfl rfl (by rw [List.length_map]; omega) (by decide) (by have := b8.size; simp at this; omega) ?_; intro v9 w9 o9 b9))
          have c9 : Below w7.heap.size w7 w9 := (((Below.refl _ _).alloc (Nat.le_refl _) _).trans b8).trans b9
          have o9' : OW w9 w7.heap.size 3 v9 ((tpeaks D ++ [x]).map (Value.int .i64)) := by rw [List.map_append]; exact o9
          replace r7 := r7.next c9 (by omega)
          have s9 := c9.size
          (go_wp2_with fail; (with_reducible refine (sameInts_any _ _ (tpeaks D ++ [x]) (tpeaks D ++ [x]) _ _ true (RV.mono (B' := w9.heap.size) r7.rv (by omega)) o9'.rv (Nat.le_refl _) (by simp; omega) (eqI_self _)).mono ?_))
          rintro _ w10 ⟨rfl, b10⟩
          go_wp2_with fail
          go_ret
          exact ⟨rfl, bstep (bstep (bstep (bstep bb4 c6) b7) c9) b10⟩
set_option maxHeartbeats 4000000 in
set_option maxRecDepth 100000 in
theorem walk_FnTreeChange (v0 : Value) (L0 : List Int) (v1 : Value) (L1 : List Int) (w : World) (r0 : RV w w.heap.size v0 (L0.map (Value.int .u8))) (b0 : ∀ n ∈ L0, (Lit.int .u8 n).wf = true) (r1 : RV w w.heap.size v1 (L1.map (Value.int .u8))) (_b1 : ∀ n ∈ L1, (Lit.int .u8 n).wf = true) :
    Calls Try.prog 11 #[v0, v1] w fun e w' => e = .returned (.bool true) ∧ Below w.heap.size w w' := by
  have rr0 := r0
  obtain ⟨A0, cap0, rfl, hl0, hm0, hc0⟩ := r0
  obtain ⟨A1, cap1, rfl, hl1, hm1, hc1⟩ := r1
  rw [List.length_map] at rr0 hl0 hl1 ⊢
  rw [List.length_map]
  clear hc0 hc1
  unfold maxLen at hm0 hm1
  obtain ⟨M, hM⟩ : ∃ M, M = L1.length := ⟨_, rfl⟩
  rw [← hM] at hl1 ⊢
  clear hM
  rcases small_cases L0.length M with hb | hb | ⟨hb0, hb1⟩
  · go_enter Try.func11, Try.ntmps11
    go_wp2_with fail
    go_ret
    exact ⟨rfl, Below.refl _ _⟩
  · go_enter Try.func11, Try.ntmps11
    go_wp2_with fail
    go_ret
    exact ⟨rfl, Below.refl _ _⟩
  · go_enter Try.func11, Try.ntmps11
    (go_wp2_with fail; (with_reducible refine (DrawTreeDigest_any _ L0 _ rr0 b0).mono ?_))
    rintro _ w1 ⟨v, D, rfl, hD, hlf, rD, bb⟩
    have s1 := bb.size
    obtain ⟨AD, cD, rfl, hDl, hDm, hDc⟩ := row_intsC rD
    have rv := RV.mono (B' := w1.heap.size) rD.rv (by omega)
    clear hDc
    (go_wp2_with fail; (with_reducible refine (iTreeDigest_any _ D _ rv (by omega)).mono ?_))
    rintro _ w2 ⟨rfl, b2⟩
    have s2 := b2.size
    replace rv := RV.mono (B' := w2.heap.size) (rv.below b2 (by omega)) (by omega)
    (go_wp2_with fail; (with_reducible refine (sTreeDigest_any _ D _ rv (by omega)).mono ?_))
    rintro _ w3 ⟨rfl, b3⟩
    have s3 := b3.size
    replace rv := RV.mono (B' := w3.heap.size) (rv.below b3 (by omega)) (by omega)
    have bb3 := bstep (bstep bb b2) b3
    clear bb b2 b3
    have eqd : (tdigest D == tdigest D) = true := by simp
    have ned : (tdigest D != tdigest D) = false := by simp
    cases hb : leavesB D
    · have hneg := tdigest_no hb
      rw [hneg] at eqd ned ⊢
      go_wp2_with fail
      go_ret
      exact ⟨rfl, bb3⟩
    · obtain ⟨d16, dd⟩ := leavesB_len hb
      have HE := hid' (tdigest_ok hb)
      obtain ⟨p0, p1⟩ := digB_true.1 (foldD_dig (tpeaks D) (D.length : Int) (digB_true.2 ⟨by omega, by omega⟩))
      rw [← HE.out] at p0 p1
      by_cases h0 : D.length = 0
      · obtain ⟨t, ht⟩ : ∃ t, tdigest D = t := ⟨_, rfl⟩
        rw [ht] at p0 p1 eqd ned ⊢
        have hnn : decide (t < 0) = false := decide_eq_false (by omega)
        have hz : ((D.length : Int) == 0) = true := beq_iff_eq.2 (by omega)
        clear hb ht h0
        go_wp2_with fail
        go_ret
        exact ⟨rfl, bb3⟩
      · obtain ⟨k, hkn, k1, k2⟩ := idx_of M D.length (by omega)
        obtain ⟨A', c', hv', _, _, hDc⟩ := rv_intsC rv
        simp only [Value.slice.injEq] at hv'
        obtain ⟨rfl, _, rfl⟩ := hv'
        obtain ⟨b, off, rfl, hbB, hcell⟩ := hDc (by omega)
        obtain ⟨d, hd⟩ : ∃ d, D[k]? = some d := ⟨D[k], List.getElem?_eq_getElem hkn⟩
        have hcd := hcell k d hd
        have hd9 := digB_true.1 (digs_get hd dd)
        have hzd := other_dig d (L0.length : Int) hd9.1
        have hzn := other_ne d (L0.length : Int) hd9 (by omega)
        have hch := change_digest hb hd hzd hzn
        obtain ⟨z, hz⟩ : ∃ z, other d (L0.length : Int) = z := ⟨_, rfl⟩
        obtain ⟨t, ht⟩ : ∃ t, tdigest D = t := ⟨_, rfl⟩
        rw [ht] at p0 p1 eqd ned hch ⊢
        rw [hz] at hzd hzn hch
        obtain ⟨t2, ht2⟩ : ∃ t2, tdigest (D.set k z) = t2 := ⟨_, rfl⟩
        rw [ht2] at hch
        have HT2 := hid' ht2
        have HZ := hid' hz
        have HX := hid' hd
        have hnn : decide (t < 0) = false := decide_eq_false (by omega)
        have hz0 : ((D.length : Int) == 0) = false := beq_eq_false_iff_ne.2 (by omega)
        have zd1 : (z == d) = false := beq_eq_false_iff_ne.2 hzn
        have zd2 : (t2 != t) = true := bne_iff_ne.2 fun e => hch e.symm
        have zd3 : (t2 == t) = false := beq_eq_false_iff_ne.2 fun e => hch e.symm
        have kc1 : (0 : Int) ≤ (k : Int) := by omega
        have kc2 : (k : Int) < (D.length : Int) := by omega
        obtain ⟨j0, ji, jz0, jz1, jz2⟩ := info_parts infoInt
        have rv' : RV (w3.alloc (.cells #[] 3)) w3.heap.size (.slice (some ⟨b, off, none⟩) D.length cD) (D.map (Value.int .i64)) := rv.below (bnew w3 _) (Nat.le_refl _)
        clear hb ht h0 hch ht2 hz hd hcell hDc hzn rD
        go_wp2_with (at_builtin; refine wpList_append_rv _ rfl _ _ 22 rfl w3.heap.size 3 j0 (.int .i64 0) 8 Try.underlying22 ji jz0 jz1 jz2 rfl _ _ rfl (own_empty (Nat.le_refl w3.heap.size)) _ rfl _ _ rv' (one_ints _) (by rw [List.length_map]; simp; omega) (by decide) (by simp) ?_; intro v4 w4 o4 b4; simp only [List.nil_append] at o4; obtain ⟨g, cg, rfl, hcg, l1, l2, lb, l3⟩ := own_atC (con := Value.int .i64) (D := D) o4 HX.out; obtain ⟨l4, l5⟩ := l3 z; have L4 := hid' l4; have L5 := hid' l5; clear l3 l4 l5 o4)
        (with_reducible refine (other_anyC d (L0.length : Int) _ hd9.1 hd9.2 (by omega) (by omega)).mono ?_)
        rintro _ _ ⟨rfl, rfl⟩
        rw [HZ.out]
        have c4 : Below w3.heap.size w3 (w4.setCell ⟨g, k, none⟩ (.int .i64 z)) := (((Below.refl _ _).alloc (Nat.le_refl _) _).trans b4).trans L5.out
        obtain ⟨g', cg', hvg, _, n1, _, _, _⟩ := own_atC (con := Value.int .i64) (D := D.set k z) L4.out (k := k) (x := z) (by rw [List.getElem?_set_self hkn])
        simp only [Value.slice.injEq, Option.some.injEq, Addr.mk.injEq] at hvg
        obtain ⟨⟨rfl, _, _⟩, hq, rfl⟩ := hvg
        clear hq
        have n2 : (w4.setCell ⟨g, k, none⟩ (.int .i64 z)).cell? ⟨b, off + k, none⟩ = some (.int .i64 d) := (c4.cell (p := ⟨b, off + k, none⟩) hbB).trans hcd
        have hgs : g < (w4.setCell ⟨g, k, none⟩ (.int .i64 z)).heap.size := (World.ownsRow.lt L4.out g (by rfl)).2
        have S0 : (w4.setCell ⟨g, k, none⟩ (.int .i64 z)).drew.cell? ⟨g, k, none⟩ = some (.int .i64 z) ∧ (w4.setCell ⟨g, k, none⟩ (.int .i64 z)).drew.cell? ⟨b, off + k, none⟩ = some (.int .i64 d) ∧ LS (w4.setCell ⟨g, k, none⟩ (.int .i64 z)) (.slice (some ⟨g, 0, none⟩) D.length cg) ((D.set k z).map (Value.int .i64)) ⟨g, k, none⟩ ⟨b, off + k, none⟩ (w4.setCell ⟨g, k, none⟩ (.int .i64 z)).drew := ⟨n1, n2, L4.out.rv, (Below.refl _ _).drew, hgs, Nat.lt_of_lt_of_le hbB c4.size⟩
        have I := hid' (fun (W : World) (r : W.cell? ⟨g, k, none⟩ = some (.int .i64 z) ∧ W.cell? ⟨b, off + k, none⟩ = some (.int .i64 d) ∧ LS (w4.setCell ⟨g, k, none⟩ (.int .i64 z)) (.slice (some ⟨g, 0, none⟩) D.length cg) ((D.set k z).map (Value.int .i64)) ⟨g, k, none⟩ ⟨b, off + k, none⟩ W) => iTreeDigest_any (.slice (some ⟨g, 0, none⟩) D.length cg) (D.set k z) W (ls_rv r) (by rw [List.length_set]; omega))
        rw [HT2.out] at I
        have bb4 := bstep bb3 c4
        clear n1 n2
        go_wp2_with fail
        go_region_held3 (fun W => W.cell? ⟨g, k, none⟩ = some (.int .i64 z) ∧ W.cell? ⟨b, off + k, none⟩ = some (.int .i64 d) ∧ LS (w4.setCell ⟨g, k, none⟩ (.int .i64 z)) (.slice (some ⟨g, 0, none⟩) D.length cg) ((D.set k z).map (Value.int .i64)) ⟨g, k, none⟩ ⟨b, off + k, none⟩ W)
          (first | (exact ls_step (by assumption) b8) | (exact S0) | assumption)
          ((first | (go_at_call 19; (with_reducible refine (I.out _ (by assumption)).mono ?_); rintro _ w8 ⟨rfl, b8⟩)))
        go_wp2_with fail
        go_ret
        exact ⟨rfl, bstep bb4 (ls_bel (by assumption))⟩
end Go.Proofs.Ytbfkpbbaddiehaa
