/- The walks of laws on peaks and digests over drawn leaves. -/
import Derived.Test.YtbfkpbbaddiehaaDrawC
namespace Go.Proofs.Ytbfkpbbaddiehaa
set_option linter.unusedVariables false
open Go.RowKit

theorem small_case (n : Nat) : 1048576 < n ∨ n ≤ 1048576 := by omega
theorem small_cases (n m : Nat) : 1048576 < n ∨ (n ≤ 1048576 ∧ 1048576 < m) ∨ (n ≤ 1048576 ∧ m ≤ 1048576) := by omega
theorem getD_getC {L : List Int} {k : Nat} {x : Int} (h : L[k]? = some x) : L.getD k 0 = x := by rw [List.getD_eq_getElem?_getD, h]; rfl
theorem row_intsC {w : World} {lo hi : Nat} {e : TypeId} {v : Value} {L : List Int} (h : Row w lo hi e v (L.map (Value.int .i64))) :
    ∃ A cap, v = .slice A L.length cap ∧ L.length ≤ cap ∧ cap ≤ maxLen ∧ (0 < L.length → ∃ b off, A = some ⟨b, off, none⟩ ∧ b < hi ∧ ∀ i x, L[i]? = some x → w.cell? ⟨b, off + i, none⟩ = some (.int .i64 x)) := by
  obtain ⟨A, cap, hv, hl, hm, hc⟩ := h.rv
  rw [List.length_map] at hv hl hc
  refine ⟨A, cap, hv, hl, hm, fun h0 => ?_⟩
  obtain ⟨b, off, hA, hb, hcell⟩ := hc h0
  exact ⟨b, off, hA, hb, fun i x hx => hcell i _ (by rw [List.getElem?_map, hx]; rfl)⟩
def DrawnLeaves (w : World) (e : Ending) (w' : World) : Prop := ∃ (v : Value) (L : List Int), e = .returned v ∧ L.length ≤ 28 ∧ leafy L ∧ Row w' w.heap.size w'.heap.size 3 v (L.map (Value.int .i64)) ∧ Below w.heap.size w w'
theorem DrawTreePeaks_any (v : Value) (L : List Int) (w : World) (h : RV w w.heap.size v (L.map (Value.int .u8))) (hb : ∀ n ∈ L, (Lit.int .u8 n).wf = true) : Calls Try.prog 20 #[v] w (DrawnLeaves w) := by
  go_enter Try.func20, Try.ntmps20
  (go_wp2_with fail; (with_reducible refine (l6Open_any v L _ _ h hb (Nat.le_refl _)).mono ?_))
  rintro _ w1 ⟨rfl, h1, b1, _⟩
  go_wp2_with fail
  (with_reducible refine (l91Leaves_any _ 0 _ h1 (by omega)).mono ?_)
  rintro _ w2 ⟨v, p', rfl, _, h2, k2, M, hM, hlf, ho⟩
  go_wp2_with fail
  go_ret
  exact ⟨_, M, rfl, hM, hlf, (Row.of ho).wide b1.size (Nat.le_refl _), b1.trans (below_of_grown k2 b1.size (Nat.le_refl _))⟩
theorem DrawTreeDigest_any (v : Value) (L : List Int) (w : World) (h : RV w w.heap.size v (L.map (Value.int .u8))) (hb : ∀ n ∈ L, (Lit.int .u8 n).wf = true) : Calls Try.prog 23 #[v] w (DrawnLeaves w) := by
  go_enter Try.func23, Try.ntmps23
  (go_wp2_with fail; (with_reducible refine (l6Open_any v L _ _ h hb (Nat.le_refl _)).mono ?_))
  rintro _ w1 ⟨rfl, h1, b1, _⟩
  go_wp2_with fail
  (with_reducible refine (l91Leaves_any _ 0 _ h1 (by omega)).mono ?_)
  rintro _ w2 ⟨v, p', rfl, _, h2, k2, M, hM, hlf, ho⟩
  go_wp2_with fail
  go_ret
  exact ⟨_, M, rfl, hM, hlf, (Row.of ho).wide b1.size (Nat.le_refl _), b1.trans (below_of_grown k2 b1.size (Nat.le_refl _))⟩
theorem tdigest_no {L : List Int} (h : leavesB L = false) : tdigest L = -1 := by unfold tdigest; rw [if_neg (by rw [h]; decide)]
theorem tdigest_ok {L : List Int} (h : leavesB L = true) : tdigest L = foldD L.length (tpeaks L) := by unfold tdigest tpeaks; rw [if_pos h, if_pos h]
set_option maxHeartbeats 4000000 in
set_option maxRecDepth 100000 in
theorem walk_FnTreeDigest (v0 : Value) (L0 : List Int) (w : World) (r0 : RV w w.heap.size v0 (L0.map (Value.int .u8))) (b0 : ∀ n ∈ L0, (Lit.int .u8 n).wf = true) :
    Calls Try.prog 10 #[v0] w fun e w' => e = .returned (.bool true) ∧ Below w.heap.size w w' := by
  have rr0 := r0
  obtain ⟨A0, cap0, rfl, hl0, hm0, hc0⟩ := r0
  rw [List.length_map] at rr0 hl0 ⊢
  clear hc0
  unfold maxLen at hm0
  rcases small_case L0.length with hb | hb0
  · go_enter Try.func10, Try.ntmps10
    go_wp2_with fail
    go_ret
    exact ⟨rfl, Below.refl _ _⟩
  · go_enter Try.func10, Try.ntmps10
    (go_wp2_with fail; (with_reducible refine (DrawTreeDigest_any _ L0 _ rr0 b0).mono ?_))
    rintro _ w1 ⟨v, D, rfl, hD, hlf, rD, bb⟩
    have s1 := bb.size
    obtain ⟨AD, cD, rfl, hDl, hDm, hDc⟩ := row_intsC rD
    have rv := RV.mono (B' := w1.heap.size) rD.rv (by omega)
    clear hDc
    (go_wp2_with fail; (with_reducible refine (iTreeDigest_any _ D _ rv (by omega)).mono ?_))
    rintro _ w2 ⟨rfl, b2⟩
    have s2 := b2.size
    replace rv := RV.mono (B' := w2.heap.size) (rv.below b2 (by omega)) (by omega)
    (go_wp2_with fail; (with_reducible refine (sTreeDigest_any _ D _ rv (by omega)).mono ?_))
    rintro _ w3 ⟨rfl, b3⟩
    have s3 := b3.size
    replace rv := RV.mono (B' := w3.heap.size) (rv.below b3 (by omega)) (by omega)
    have bb3 := bstep (bstep bb b2) b3
    clear bb b2 b3
    have eqd : (tdigest D == tdigest D) = true := by simp
    have ned : (tdigest D != tdigest D) = false := by simp
    cases hb : leavesB D
    · have hneg := tdigest_no hb
      rw [hneg] at eqd ned ⊢
      go_wp2_with fail
      go_ret
      exact ⟨rfl, bb3⟩
    · obtain ⟨d16, dd⟩ := leavesB_len hb
      have HE := hid' (tdigest_ok hb)
      obtain ⟨p0, p1⟩ := digB_true.1 (foldD_dig (tpeaks D) (D.length : Int) (digB_true.2 ⟨by omega, by omega⟩))
      rw [← HE.out] at p0 p1
      obtain ⟨t, ht⟩ : ∃ t, tdigest D = t := ⟨_, rfl⟩
      rw [ht] at HE p0 p1 eqd ned ⊢
      have hnn : decide (t < 0) = false := decide_eq_false (by omega)
      have H0 : Hid (digB (D.length : Int) = true) := digB_true.2 ⟨by omega, by omega⟩
      clear hb ht
      (go_wp2_with fail; (with_reducible refine (iTreePeaks_any _ D _ rv (by omega)).mono ?_))
      rintro _ w4 ⟨v4, rfl, r4, b4⟩
      have hpl := tpeaks_len D
      have hpd := tpeaks_digs D
      obtain ⟨A2, c2, hv2, hl2, hm2, hc2⟩ := row_intsC r4
      subst hv2
      have bb4 := bstep bb3 b4
      clear b4 bb3
      go_wp2_with fail
      go_loop [6, 8] (fun d i => ∃ k : Nat, k ≤ (tpeaks D).length ∧ i = .int .i64 k ∧ d = .int .i64 (foldD D.length ((tpeaks D).take k))) (fun _ i => (tpeaks D).length - (intOf i).toNat)
      case atStart => exact ⟨0, Nat.zero_le _, rfl, rfl⟩
      case round =>
        obtain ⟨k, hk, rfl, rfl⟩ := hrel
        by_cases hlt : k < (tpeaks D).length
        · obtain ⟨b', off, rfl, hbB, hcell⟩ := hc2 (by omega)
          obtain ⟨x, hx⟩ : ∃ x, (tpeaks D)[k]? = some x := ⟨(tpeaks D)[k], List.getElem?_eq_getElem hlt⟩
          have hcx := hcell k x hx
          have hdx := digs_get hx hpd
          have HP := hid' (foldD_snoc (n := (D.length : Int)) hx)
          have HQ := hid' (dpair_ok (foldD_dig ((tpeaks D).take k) (D.length : Int) H0.out) hdx)
          obtain ⟨y, hy⟩ : ∃ y, foldD (D.length : Int) ((tpeaks D).take k) = y := ⟨_, rfl⟩
          rw [hy] at HP HQ ⊢
          clear hcell hc2 hx hdx hy
          (go_wp2_with fail; (with_reducible refine (iDigestPair_any y x _).mono ?_); rintro _ _ ⟨rfl, rfl⟩)
          rw [HQ.out]
          go_wp2_with fail
          go_round
          case rel => exact ⟨k + 1, by omega, by go_num, by rw [HP.out]⟩
          case measure => simp [intOf]; omega
        · have HF : Hid (foldD (D.length : Int) ((tpeaks D).take k) = t) := by unfold Hid; rw [List.take_of_length_le (by omega), ← HE.out]
          rw [HF.out]
          clear hc2
          go_wp2_with fail
          go_ret
          exact ⟨retB (by simp), bb4⟩
theorem tpeaks_pos {L : List Int} (h : 0 < (tpeaks L).length) : leavesB L = true ∧ tpeaks L = peaks L := by
  unfold tpeaks at *
  split at h
  · rename_i hb; exact ⟨hb, if_pos hb⟩
  · cases h
/-- the ones of k -/
def pop : Nat → Nat → Nat
  | 0, _ => 0
  | f + 1, k => k % 2 + pop f (k / 2)
theorem pop_ok (n : Nat) (h : n ≤ 16) : (tr 0 n).length = pop 6 n := by
  have : ∀ n : Fin 17, (tr 0 n.1).length = pop 6 n.1 := by decide +kernel
  exact this ⟨n, by omega⟩
theorem pop_le (k : Nat) (h : k ≤ 16) : pop 6 k ≤ 6 := by
  have : ∀ n : Fin 17, pop 6 n.1 ≤ 6 := by decide +kernel
  exact this ⟨k, by omega⟩
theorem pop_step (k : Nat) (h : k ≤ 16) : pop 6 k = k % 2 + pop 6 (k / 2) := by
  have : ∀ n : Fin 17, pop 6 n.1 = n.1 % 2 + pop 6 (n.1 / 2) := by decide +kernel
  exact this ⟨k, by omega⟩
theorem pop_0 : pop 6 0 = 0 := rfl
set_option maxHeartbeats 4000000 in
set_option maxRecDepth 100000 in
theorem walk_FnPeaks (v0 : Value) (L0 : List Int) (w : World) (r0 : RV w w.heap.size v0 (L0.map (Value.int .u8))) (b0 : ∀ n ∈ L0, (Lit.int .u8 n).wf = true) :
    Calls Try.prog 5 #[v0] w fun e w' => e = .returned (.bool true) ∧ Below w.heap.size w w' := by
  have rr0 := r0
  obtain ⟨A0, cap0, rfl, hl0, hm0, hc0⟩ := r0
  rw [List.length_map] at rr0 hl0 ⊢
  clear hc0
  unfold maxLen at hm0
  rcases small_case L0.length with hb | hb0
  · go_enter Try.func5, Try.ntmps5
    go_wp2_with fail
    go_ret
    exact ⟨rfl, Below.refl _ _⟩
  · go_enter Try.func5, Try.ntmps5
    (go_wp2_with fail; (with_reducible refine (DrawTreePeaks_any _ L0 _ rr0 b0).mono ?_))
    rintro _ w1 ⟨v, D, rfl, hD, hlf, rD, bb⟩
    have s1 := bb.size
    obtain ⟨AD, cD, rfl, hDl, hDm, hDc⟩ := row_intsC rD
    have rv := RV.mono (B' := w1.heap.size) rD.rv (by omega)
    have hrl0 := tpeaks_len D
    have hrl : (tpeaks D).length ≤ 33554432 := by omega
    clear hDc
    (go_wp2_with fail; (with_reducible refine (iTreePeaks_any _ D _ rv (by omega)).mono ?_))
    rintro _ w2 ⟨v2, rfl, r2, b2⟩
    have s2 := b2.size
    replace rv := RV.mono (B' := w2.heap.size) (rv.below b2 (by omega)) (by omega)
    (go_wp2_with fail; (with_reducible refine (sTreePeaks_any _ D _ rv (by omega)).mono ?_))
    rintro _ w3 ⟨v3, rfl, r3, b3⟩
    have s3 := b3.size
    replace r2 := r2.next b3 (by omega)
    replace rv := RV.mono (B' := w3.heap.size) (rv.below b3 (by omega)) (by omega)
    (go_wp2_with fail; (with_reducible refine (sameInts_any _ _ (tpeaks D) (tpeaks D) _ _ true (RV.mono (B' := w3.heap.size) r2.rv (by omega)) (RV.mono (B' := w3.heap.size) r3.rv (by omega)) (Nat.le_refl _) hrl (eqI_self _)).mono ?_))
    rintro _ w4 ⟨rfl, b4⟩
    have s4 := b4.size
    replace r2 := r2.next b4 (by omega)
    replace r3 := r3.next b4 (by omega)
    replace rv := RV.mono (B' := w4.heap.size) (rv.below b4 (by omega)) (by omega)
    have bb4 := bstep (bstep (bstep bb b2) b3) b4
    clear bb b2 b3 b4
    by_cases h0 : (tpeaks D).length = 0
    · obtain ⟨A2, c2, hv2, hl2, hm2, hc2⟩ := row_intsC r2
      subst hv2
      have hz : ((((tpeaks D).length : Nat) : Int) == 0) = true := beq_iff_eq.2 (by omega)
      clear hc2 h0
      (go_wp2_with fail; (with_reducible refine (sameInts_any _ _ (tpeaks D) (tpeaks D) _ _ true (RV.mono (B' := w4.heap.size) r2.rv (by omega)) (RV.mono (B' := w4.heap.size) r3.rv (by omega)) (Nat.le_refl _) hrl (eqI_self _)).mono ?_))
      rintro _ w5 ⟨rfl, b5⟩
      go_wp2_with fail
      go_ret
      exact ⟨rfl, bstep bb4 b5⟩
    · obtain ⟨A2, c2, hv2, hl2, hm2, hc2⟩ := row_intsC r2
      subst hv2
      have hz : ((((tpeaks D).length : Nat) : Int) == 0) = false := beq_eq_false_iff_ne.2 (by omega)
      obtain ⟨hb, hpk⟩ := tpeaks_pos (L := D) (by omega)
      obtain ⟨d16, dd⟩ := leavesB_len hb
      have HP : Hid ((tpeaks D).length = pop 6 D.length) := by unfold Hid; rw [hpk]; unfold peaks rts; rw [List.length_map]; exact pop_ok _ d16
      clear hc2 hpk hb
      go_wp2_with fail
      go_loop [6, 7] (fun n k => ∃ a b : Nat, b ≤ 16 ∧ Hid (a + pop 6 b = pop 6 D.length) ∧ n = .int .i64 a ∧ k = .int .i64 b) (fun _ k => (intOf k).toNat)
      case atStart => exact ⟨0, D.length, d16, Nat.zero_add _, rfl, rfl⟩
      case round =>
        obtain ⟨a, b, hb, hab, rfl, rfl⟩ := hrel
        have ha : a ≤ 6 := by have := hab.out; have := pop_le D.length d16; omega
        by_cases hlt : 0 < b
        · have hst := pop_step b hb
          have HAB : Hid ((a + b % 2) + pop 6 (b / 2) = pop 6 D.length) := by unfold Hid; have := hab.out; omega
          have e1 : ((b : Nat) : Int).tmod 2 = ((b % 2 : Nat) : Int) := by rw [Int.tmod_eq_emod_of_nonneg (by omega)]; rfl
          have e2 : ((b : Nat) : Int).tdiv 2 = ((b / 2 : Nat) : Int) := by rw [Int.tdiv_eq_ediv_of_nonneg (by omega)]; rfl
          clear hst
          go_wp2_with fail
          go_round
          case rel => exact ⟨a + b % 2, b / 2, by omega, HAB, by go_num, by go_num⟩
          case measure => simp [intOf]; omega
        · have hb0 : b = 0 := by omega
          subst hb0
          have HF : (tpeaks D).length = a := by have := hab.out; have := pop_0; have := HP.out; omega
          rw [HF]
          go_wp2_with fail
          go_ret
          exact ⟨retB (by simp), bb4⟩
theorem pow_le5 {s j : Nat} (h : s = 2 ^ j) (hs : s ≤ 16) : j + 1 ≤ 5 := by
  rcases Nat.lt_or_ge j 5 with h1 | h1
  · exact h1
  · have h2 := Nat.pow_le_pow_right (n := 2) (by decide) h1
    rw [← h, show (2 : Nat) ^ 5 = 32 from rfl] at h2; omega
theorem leavesB_take {L : List Int} (h : leavesB L = true) (k : Nat) : leavesB (L.take k) = true := by
  obtain ⟨h16, hd⟩ := leavesB_len h
  unfold leavesB
  rw [digs_take hd k, decide_eq_true (show (L.take k).length ≤ 16 by rw [List.length_take]; omega)]; rfl
theorem take_len1 {D : List Int} (hb : leavesB D = true) (j s : Nat) (h : s = 2 ^ j) (hs : s ≤ D.length) : (tpeaks (D.take s)).length = 1 := by
  obtain ⟨h16, hd⟩ := leavesB_len hb
  have hl : (D.take s).length = s := by rw [List.length_take]; omega
  have hj := pow_le5 h (by omega)
  unfold tpeaks
  rw [if_pos (leavesB_take hb s)]
  unfold peaks rts
  rw [List.length_map, hl, h]
  have : ∀ j : Fin 5, (tr 0 (2 ^ j.1)).length = 1 := by decide +kernel
  exact this ⟨j, by omega⟩
set_option maxHeartbeats 4000000 in
set_option maxRecDepth 100000 in
theorem walk_FnPeaksWhole (v0 : Value) (L0 : List Int) (w : World) (r0 : RV w w.heap.size v0 (L0.map (Value.int .u8))) (b0 : ∀ n ∈ L0, (Lit.int .u8 n).wf = true) :
    Calls Try.prog 9 #[v0] w fun e w' => e = .returned (.bool true) ∧ Below w.heap.size w w' := by
  have rr0 := r0
  obtain ⟨A0, cap0, rfl, hl0, hm0, hc0⟩ := r0
  rw [List.length_map] at rr0 hl0 ⊢
  clear hc0
  unfold maxLen at hm0
  rcases small_case L0.length with hb | hb0
  · go_enter Try.func9, Try.ntmps9
    go_wp2_with fail
    go_ret
    exact ⟨rfl, Below.refl _ _⟩
  · go_enter Try.func9, Try.ntmps9
    (go_wp2_with fail; (with_reducible refine (DrawTreePeaks_any _ L0 _ rr0 b0).mono ?_))
    rintro _ w1 ⟨v, D, rfl, hD, hlf, rD, bb⟩
    have s1 := bb.size
    obtain ⟨AD, cD, rfl, hDl, hDm, hDc⟩ := row_intsC rD
    have rv := RV.mono (B' := w1.heap.size) rD.rv (by omega)
    have hrl0 := tpeaks_len D
    have hrl : (tpeaks D).length ≤ 33554432 := by omega
    clear hDc
    (go_wp2_with fail; (with_reducible refine (iTreePeaks_any _ D _ rv (by omega)).mono ?_))
    rintro _ w2 ⟨v2, rfl, r2, b2⟩
    have s2 := b2.size
    replace rv := RV.mono (B' := w2.heap.size) (rv.below b2 (by omega)) (by omega)
    (go_wp2_with fail; (with_reducible refine (sTreePeaks_any _ D _ rv (by omega)).mono ?_))
    rintro _ w3 ⟨v3, rfl, r3, b3⟩
    have s3 := b3.size
    replace r2 := r2.next b3 (by omega)
    replace rv := RV.mono (B' := w3.heap.size) (rv.below b3 (by omega)) (by omega)
    (go_wp2_with fail; (with_reducible refine (sameInts_any _ _ (tpeaks D) (tpeaks D) _ _ true (RV.mono (B' := w3.heap.size) r2.rv (by omega)) (RV.mono (B' := w3.heap.size) r3.rv (by omega)) (Nat.le_refl _) hrl (eqI_self _)).mono ?_))
    rintro _ w4 ⟨rfl, b4⟩
    have s4 := b4.size
    replace r2 := r2.next b4 (by omega)
    replace r3 := r3.next b4 (by omega)
    replace rv := RV.mono (B' := w4.heap.size) (rv.below b4 (by omega)) (by omega)
    have bb4 := bstep (bstep (bstep bb b2) b3) b4
    clear bb b2 b3 b4
    by_cases h0 : (tpeaks D).length = 0
    · obtain ⟨A2, c2, hv2, hl2, hm2, hc2⟩ := row_intsC r2
      subst hv2
      have hz : ((((tpeaks D).length : Nat) : Int) == 0) = true := beq_iff_eq.2 (by omega)
      clear hc2 h0
      (go_wp2_with fail; (with_reducible refine (sameInts_any _ _ (tpeaks D) (tpeaks D) _ _ true (RV.mono (B' := w4.heap.size) r2.rv (by omega)) (RV.mono (B' := w4.heap.size) r3.rv (by omega)) (Nat.le_refl _) hrl (eqI_self _)).mono ?_))
      rintro _ w5 ⟨rfl, b5⟩
      go_wp2_with fail
      go_ret
      exact ⟨rfl, bstep bb4 b5⟩
    · obtain ⟨A2, c2, hv2, hl2, hm2, hc2⟩ := row_intsC r2
      subst hv2
      have hz : ((((tpeaks D).length : Nat) : Int) == 0) = false := beq_eq_false_iff_ne.2 (by omega)
      obtain ⟨hb, hpk⟩ := tpeaks_pos (L := D) (by omega)
      obtain ⟨d16, dd⟩ := leavesB_len hb
      have HT := hid' (take_len1 hb)
      clear hc2 hpk hb
      go_wp2_with fail
      go_loopw [6] (fun n wr => ∃ j s : Nat, j ≤ 5 ∧ Hid (s = 2 ^ j) ∧ 1 ≤ s ∧ s ≤ 32 ∧ n = .int .i64 s ∧ Below w4.heap.size w4 wr) (fun n _ => 33 - (intOf n).toNat)
      case atStart => exact ⟨0, 1, by omega, rfl, by omega, by omega, rfl, Below.refl _ _⟩
      case round =>
        obtain ⟨j, s, hj, hs, hs1, hs2, rfl, hbel⟩ := hrel
        have sw := hbel.size
        by_cases hle : s ≤ D.length
        · have hl1 := HT.out j s hs.out hle
          have rvw := rv.below hbel (Nat.le_refl _)
          have rt := RV.mono (B' := wr.heap.size) (rv_take (k := s) rvw (by rw [List.length_map]; exact hle)) sw
          rw [← List.map_take] at rt
          have HJ : Hid (2 * s = 2 ^ (j + 1)) := by unfold Hid; rw [hs.out, Nat.pow_succ]; omega
          have hj5 : j + 1 ≤ 5 := pow_le5 hs.out (by omega)
          have hscap : s ≤ cD := by omega
          (go_wp2_with fail; (with_reducible refine (iTreePeaks_any _ (D.take s) _ rt (by rw [List.length_take]; omega)).mono ?_))
          rintro _ w5 ⟨v5, rfl, r5, b5⟩
          obtain ⟨A5, c5, hv5, _⟩ := row_intsC r5
          rw [hl1] at hv5
          subst hv5
          go_wp2_with fail
          go_roundw
          case rel => exact ⟨j + 1, 2 * s, hj5, HJ, by omega, by omega, by go_num, hbel.trans (b5.mono sw)⟩
          case measure => simp [intOf]; omega
        · go_wp2_with fail
          go_ret
          exact ⟨rfl, bstep bb4 hbel⟩
end Go.Proofs.Ytbfkpbbaddiehaa
