/- The walks of laws on drawn proofs of trees. -/
import Derived.Test.YtnhpilipkeddiaaDrawT
namespace Go.Proofs.Ytnhpilipkeddiaa
set_option linter.unusedVariables false
open Go.RowKit
theorem flat_row2 {w : World} {lo hi : Nat} {e : TypeId} {v : Value} {L : List Value} (h : Row w lo hi e v L) : Flat v := by
  have h' := h.1
  unfold OW at h'
  rcases h'.2 with ⟨hv, _⟩ | ⟨g, cap, cur, hv, _⟩
  · exact .inl hv
  · exact .inr ⟨g, 0, _, cap, hv⟩
theorem tproof_len2 (L : List Int) (i : Int) : (tproof L i).length ≤ 6 := by
  by_cases h : leavesB L = true ∧ 0 ≤ i ∧ i < L.length
  · obtain ⟨h16, hd⟩ := leavesB_len h.1
    obtain ⟨m, rfl⟩ : ∃ m : Nat, i = (m : Int) := ⟨i.toNat, by omega⟩
    rw [tproof_yes h.1 (by omega), proofOf_len pr (lf L) L.length m h16 (by omega)]
    exact (proofLen_le L.length m h16 (by omega)).1
  · rw [tproof_no h]; simp
theorem front_ok {L : List Int} {m : Nat} {x : Int} (hb : leavesB L = true) (hm : m < L.length) (hx : 0 ≤ x ∧ x ≤ 990) : tfront (L.length : Int) (m : Int) x (tproof L (m : Int)) = true := by
  obtain ⟨h16, hd⟩ := leavesB_len hb
  unfold tfront
  rw [inB_true.2 ⟨by omega, by omega⟩, inB_true.2 ⟨by omega, by omega⟩, digB_true.2 hx, tproof_yes hb hm, proofOf_digs hd]; rfl
/-- a leaf's proof is accepted -/
theorem proof_accepted {L : List Int} {m : Nat} (hb : leavesB L = true) (hm : m < L.length) : tcheck (tdigest L) (L.length : Int) (m : Int) (lf L m) (tproof L (m : Int)) = true := by
  obtain ⟨h16, hd⟩ := leavesB_len hb
  rw [tcheck_yes (front_ok hb hm (lf_dig hd m)) (by rw [tproof_yes hb hm]; exact proofOf_len _ _ _ _ h16 hm), tproof_yes hb hm, proof_ok L.length m h16 hm, tdigest_pk hb]
  exact beq_iff_eq.2 rfl
/-- another leaf is not -/
theorem proof_refused {L : List Int} {m : Nat} {x : Int} (hb : leavesB L = true) (hm : m < L.length) (hx : 0 ≤ x ∧ x ≤ 990) (hn : x ≠ lf L m) : tcheck (tdigest L) (L.length : Int) (m : Int) x (tproof L (m : Int)) = false := by
  obtain ⟨h16, hd⟩ := leavesB_len hb
  have hl := proofOf_len pr (lf L) L.length m h16 hm
  rw [tcheck_yes (front_ok hb hm hx) (by rw [tproof_yes hb hm]; exact hl), tproof_yes hb hm, beq_eq_false_iff_ne]
  intro e
  have e2 := proof_ok (L := L) L.length m h16 hm (L.length : Int)
  have e3 : tdigest L = foldD (L.length : Int) (rts pr (lf L) (tr 0 L.length)) := tdigest_pk hb
  exact check_leaf L.length m h16 hm (proofOf_digs hd _ _) hl ⟨by omega, by omega⟩ hx (lf_dig hd m) hn (e.trans (e3.trans e2.symm))
/-- nor is another digest -/
theorem digest_refused {L : List Int} {m : Nat} {y : Int} (hb : leavesB L = true) (hm : m < L.length) (hn : y ≠ tdigest L) : tcheck y (L.length : Int) (m : Int) (lf L m) (tproof L (m : Int)) = false := by
  obtain ⟨h16, hd⟩ := leavesB_len hb
  rw [tcheck_yes (front_ok hb hm (lf_dig hd m)) (by rw [tproof_yes hb hm]; exact proofOf_len _ _ _ _ h16 hm), tproof_yes hb hm, proof_ok L.length m h16 hm, beq_eq_false_iff_ne]
  intro e
  rw [tdigest_pk hb] at hn
  exact hn e.symm
theorem tdigest_bd2 {L : List Int} (h : leavesB L = true) : digB (tdigest L) = true := by
  obtain ⟨h16, hd⟩ := leavesB_len h
  rw [tdigest_pk h]
  exact foldD_dig _ _ (digB_true.2 ⟨by omega, by omega⟩)
set_option maxHeartbeats 8000000 in
set_option maxRecDepth 100000 in
theorem walk_FnProof (v0 : Value) (L0 : List Int) (w : World) (r0 : RV w w.heap.size v0 (L0.map (Value.int .u8))) (b0 : ∀ n ∈ L0, (Lit.int .u8 n).wf = true) :
    Calls Try.prog 6 #[v0] w fun e w' => e = .returned (.bool true) ∧ Below w.heap.size w w' := by
  have rr0 := r0
  obtain ⟨A0, cap0, rfl, hl0, hm0, hc0⟩ := r0
  rw [List.length_map] at rr0 hl0 ⊢
  clear hc0
  unfold maxLen at hm0
  rcases small_case L0.length with hb | hb0
  · go_enter Try.func6, Try.ntmps6
    go_wp2_with fail
    go_ret
    exact ⟨rfl, Below.refl _ _⟩
  · go_enter Try.func6, Try.ntmps6
    (go_wp2_with fail; (with_reducible refine (DrawTreeProof_any _ L0 _ rr0 b0).mono ?_))
    rintro _ w1 ⟨v, D, i, rfl, hD, hlf, rD, bb⟩
    have s1 := bb.size
    obtain ⟨AD, cD, rfl, hDl, hDm, hDc⟩ := row_intsC rD
    have rv := RV.mono (B' := w1.heap.size) rD.rv (by omega)
    have hrl0 := tproof_len2 D i
    have hrl : (tproof D i).length ≤ 33554432 := by omega
    clear hDc
    (go_wp2_with fail; (with_reducible refine (iTreeProof_any _ D i _ rv (by omega)).mono ?_))
    rintro _ w2 ⟨v2, rfl, r2, b2⟩
    have s2 := b2.size
    replace rv := RV.mono (B' := w2.heap.size) (rv.below b2 (by omega)) (by omega)
    (go_wp2_with fail; (with_reducible refine (sTreeProof_any _ D i _ rv (by omega)).mono ?_))
    rintro _ w3 ⟨v3, rfl, r3, b3⟩
    have s3 := b3.size
    replace r2 := r2.next b3 (by omega)
    replace rv := RV.mono (B' := w3.heap.size) (rv.below b3 (by omega)) (by omega)
    (go_wp2_with fail; (with_reducible refine (sameInts_any _ _ (tproof D i) (tproof D i) _ _ true (RV.mono (B' := w3.heap.size) r2.rv (by omega)) (RV.mono (B' := w3.heap.size) r3.rv (by omega)) (Nat.le_refl _) hrl (eqI_self _)).mono ?_))
    rintro _ w4 ⟨rfl, b4⟩
    have s4 := b4.size
    replace r2 := r2.next b4 (by omega)
    replace r3 := r3.next b4 (by omega)
    replace rv := RV.mono (B' := w4.heap.size) (rv.below b4 (by omega)) (by omega)
    have bb4 := bstep (bstep (bstep bb b2) b3) b4
    clear bb b2 b3 b4
    (go_wp2_with fail; (with_reducible refine (iTreeDigest_any _ D _ rv (by omega)).mono ?_))
    rintro _ w5 ⟨rfl, b5⟩
    have s5 := b5.size
    replace r2 := r2.next b5 (by omega)
    replace r3 := r3.next b5 (by omega)
    replace rv := RV.mono (B' := w5.heap.size) (rv.below b5 (by omega)) (by omega)
    replace bb4 := bstep bb4 b5
    clear b5
    cases hb : leavesB D
    · have hneg := tdigest_no hb
      rw [hneg]
      go_wp2_with fail
      go_ret
      exact ⟨rfl, bb4⟩
    · obtain ⟨d16, dd⟩ := leavesB_len hb
      have htd := tdigest_bd2 hb
      obtain ⟨p0, p1⟩ := digB_true.1 htd
      by_cases hi0 : i < 0
      · have hf1 : decide (i < 0) = true := decide_eq_true hi0
        obtain ⟨t, ht⟩ : ∃ t, tdigest D = t := ⟨_, rfl⟩
        rw [ht] at p0 p1 ⊢
        have hf0 : decide (t < 0) = false := decide_eq_false (by omega)
        clear hb ht htd
        go_wp2_with fail
        go_ret
        exact ⟨rfl, bb4⟩
      · have hf1 : decide (i < 0) = false := decide_eq_false hi0
        by_cases hi1 : (D.length : Int) ≤ i
        · have hf2 : decide ((D.length : Int) ≤ i) = true := decide_eq_true hi1
          obtain ⟨t, ht⟩ : ∃ t, tdigest D = t := ⟨_, rfl⟩
          rw [ht] at p0 p1 ⊢
          have hf0 : decide (t < 0) = false := decide_eq_false (by omega)
          clear hb ht htd
          go_wp2_with fail
          go_ret
          exact ⟨rfl, bb4⟩
        · have hf2 : decide ((D.length : Int) ≤ i) = false := decide_eq_false hi1
          obtain ⟨m, rfl⟩ : ∃ m : Nat, i = (m : Int) := ⟨i.toNat, by omega⟩
          have hmn : m < D.length := by omega
          obtain ⟨A', c', hv', _, _, hDc⟩ := rv_intsC rv
          simp only [Value.slice.injEq] at hv'
          obtain ⟨rfl, _, rfl⟩ := hv'
          obtain ⟨b, off, rfl, hbB, hcell⟩ := hDc (by omega)
          obtain ⟨x, hx⟩ : ∃ x, D[m]? = some x := ⟨D[m], List.getElem?_eq_getElem hmn⟩
          have hlx := lf_get hx
          have hcx := hcell m x hx
          have hdx := digB_true.1 (digs_get hx dd)
          have hok := proof_accepted hb hmn
          rw [hlx] at hok
          obtain ⟨t, ht⟩ : ∃ t, tdigest D = t := ⟨_, rfl⟩
          rw [ht] at p0 p1 hok ⊢
          have hf0 : decide (t < 0) = false := decide_eq_false (by omega)
          have HOK := hid' hok
          have hmi : (0 : Int) ≤ (m : Int) := by omega
          have hmi2 : (m : Int) < (D.length : Int) := by omega
          have FL := flat_row2 r2
          clear hb ht htd hok hx hlx hcell hDc hi1 hi0
          (go_wp2_with fail; (with_reducible refine (iTreeCheck_b t (D.length : Int) (m : Int) x v2 (tproof D (m : Int)) _ true (RV.mono (B' := w5.heap.size) r2.rv (by omega)) FL (by omega) HOK.out).mono ?_))
          rintro _ w6 ⟨rfl, b6⟩
          go_wp2_with fail
          go_ret
          exact ⟨rfl, bstep bb4 b6⟩
set_option maxHeartbeats 8000000 in
set_option maxRecDepth 100000 in
theorem walk_FnProofLeaf (v0 : Value) (L0 : List Int) (v1 : Value) (L1 : List Int) (w : World) (r0 : RV w w.heap.size v0 (L0.map (Value.int .u8))) (b0 : ∀ n ∈ L0, (Lit.int .u8 n).wf = true) (r1 : RV w w.heap.size v1 (L1.map (Value.int .u8))) (_b1 : ∀ n ∈ L1, (Lit.int .u8 n).wf = true) :
    Calls Try.prog 7 #[v0, v1] w fun e w' => e = .returned (.bool true) ∧ Below w.heap.size w w' := by
  have rr0 := r0
  obtain ⟨A0, cap0, rfl, hl0, hm0, hc0⟩ := r0
  obtain ⟨A1, cap1, rfl, hl1, hm1, hc1⟩ := r1
  rw [List.length_map] at rr0 hl0 hl1 ⊢
  rw [List.length_map]
  clear hc0 hc1
  unfold maxLen at hm0 hm1
  obtain ⟨M, hM⟩ : ∃ M, M = L1.length := ⟨_, rfl⟩
  rw [← hM] at hl1 ⊢
  clear hM
  rcases small_cases L0.length M with hb | hb | ⟨hb0, hb1⟩
  · go_enter Try.func7, Try.ntmps7
    go_wp2_with fail
    go_ret
    exact ⟨rfl, Below.refl _ _⟩
  · go_enter Try.func7, Try.ntmps7
    go_wp2_with fail
    go_ret
    exact ⟨rfl, Below.refl _ _⟩
  · go_enter Try.func7, Try.ntmps7
    (go_wp2_with fail; (with_reducible refine (DrawTreeProof_any _ L0 _ rr0 b0).mono ?_))
    rintro _ w1 ⟨v, D, i, rfl, hD, hlf, rD, bb⟩
    have s1 := bb.size
    obtain ⟨AD, cD, rfl, hDl, hDm, hDc⟩ := row_intsC rD
    have rv := RV.mono (B' := w1.heap.size) rD.rv (by omega)
    have hrl0 := tproof_len2 D i
    have hrl : (tproof D i).length ≤ 33554432 := by omega
    clear hDc
    (go_wp2_with fail; (with_reducible refine (iTreeProof_any _ D i _ rv (by omega)).mono ?_))
    rintro _ w2 ⟨v2, rfl, r2, b2⟩
    have s2 := b2.size
    replace rv := RV.mono (B' := w2.heap.size) (rv.below b2 (by omega)) (by omega)
    (go_wp2_with fail; (with_reducible refine (sTreeProof_any _ D i _ rv (by omega)).mono ?_))
    rintro _ w3 ⟨v3, rfl, r3, b3⟩
    have s3 := b3.size
    replace r2 := r2.next b3 (by omega)
    replace rv := RV.mono (B' := w3.heap.size) (rv.below b3 (by omega)) (by omega)
    (go_wp2_with fail; (with_reducible refine (sameInts_any _ _ (tproof D i) (tproof D i) _ _ true (RV.mono (B' := w3.heap.size) r2.rv (by omega)) (RV.mono (B' := w3.heap.size) r3.rv (by omega)) (Nat.le_refl _) hrl (eqI_self _)).mono ?_))
    rintro _ w4 ⟨rfl, b4⟩
    have s4 := b4.size
    replace r2 := r2.next b4 (by omega)
    replace r3 := r3.next b4 (by omega)
    replace rv := RV.mono (B' := w4.heap.size) (rv.below b4 (by omega)) (by omega)
    have bb4 := bstep (bstep (bstep bb b2) b3) b4
    clear bb b2 b3 b4
    (go_wp2_with fail; (with_reducible refine (sTreeDigest_any _ D _ rv (by omega)).mono ?_))
    rintro _ w5 ⟨rfl, b5⟩
    have s5 := b5.size
    replace r2 := r2.next b5 (by omega)
    replace r3 := r3.next b5 (by omega)
    replace rv := RV.mono (B' := w5.heap.size) (rv.below b5 (by omega)) (by omega)
    replace bb4 := bstep bb4 b5
    clear b5
    cases hb : leavesB D
    · have hneg := tdigest_no hb
      rw [hneg]
      (go_wp2_with fail; (with_reducible refine (sameInts_any _ _ (tproof D i) (tproof D i) _ _ true (RV.mono (B' := w5.heap.size) r2.rv (by omega)) (RV.mono (B' := w5.heap.size) r3.rv (by omega)) (Nat.le_refl _) hrl (eqI_self _)).mono ?_))
      rintro _ w6 ⟨rfl, b6⟩
      go_wp2_with fail
      go_ret
      exact ⟨rfl, bstep bb4 b6⟩
    · obtain ⟨d16, dd⟩ := leavesB_len hb
      have htd := tdigest_bd2 hb
      obtain ⟨p0, p1⟩ := digB_true.1 htd
      by_cases hi0 : i < 0
      · have hf1 : decide (i < 0) = true := decide_eq_true hi0
        obtain ⟨t, ht⟩ : ∃ t, tdigest D = t := ⟨_, rfl⟩
        rw [ht] at p0 p1 ⊢
        have hf0 : decide (t < 0) = false := decide_eq_false (by omega)
        clear hb ht htd
        (go_wp2_with fail; (with_reducible refine (sameInts_any _ _ (tproof D i) (tproof D i) _ _ true (RV.mono (B' := w5.heap.size) r2.rv (by omega)) (RV.mono (B' := w5.heap.size) r3.rv (by omega)) (Nat.le_refl _) hrl (eqI_self _)).mono ?_))
        rintro _ w6 ⟨rfl, b6⟩
        go_wp2_with fail
        go_ret
        exact ⟨rfl, bstep bb4 b6⟩
      · have hf1 : decide (i < 0) = false := decide_eq_false hi0
        by_cases hi1 : (D.length : Int) ≤ i
        · have hf2 : decide ((D.length : Int) ≤ i) = true := decide_eq_true hi1
          obtain ⟨t, ht⟩ : ∃ t, tdigest D = t := ⟨_, rfl⟩
          rw [ht] at p0 p1 ⊢
          have hf0 : decide (t < 0) = false := decide_eq_false (by omega)
          clear hb ht htd
          (go_wp2_with fail; (with_reducible refine (sameInts_any _ _ (tproof D i) (tproof D i) _ _ true (RV.mono (B' := w5.heap.size) r2.rv (by omega)) (RV.mono (B' := w5.heap.size) r3.rv (by omega)) (Nat.le_refl _) hrl (eqI_self _)).mono ?_))
          rintro _ w6 ⟨rfl, b6⟩
          go_wp2_with fail
          go_ret
          exact ⟨rfl, bstep bb4 b6⟩
        · have hf2 : decide ((D.length : Int) ≤ i) = false := decide_eq_false hi1
          obtain ⟨m, rfl⟩ : ∃ m : Nat, i = (m : Int) := ⟨i.toNat, by omega⟩
          have hmn : m < D.length := by omega
          obtain ⟨A', c', hv', _, _, hDc⟩ := rv_intsC rv
          simp only [Value.slice.injEq] at hv'
          obtain ⟨rfl, _, rfl⟩ := hv'
          obtain ⟨b, off, rfl, hbB, hcell⟩ := hDc (by omega)
          obtain ⟨x, hx⟩ : ∃ x, D[m]? = some x := ⟨D[m], List.getElem?_eq_getElem hmn⟩
          have hlx := lf_get hx
          have hcx := hcell m x hx
          have hdx := digB_true.1 (digs_get hx dd)
          have hzd := other_dig x (M : Int) hdx.1
          have hzn := other_ne x (M : Int) hdx (by omega)
          have hyd := other_dig (tdigest D) (M : Int) p0
          have hyn := other_ne (tdigest D) (M : Int) ⟨p0, p1⟩ (by omega)
          have hno1 := proof_refused hb hmn hzd (by rw [hlx]; exact hzn)
          have hno2 := digest_refused hb hmn hyn
          rw [hlx] at hno2
          obtain ⟨t, ht⟩ : ∃ t, tdigest D = t := ⟨_, rfl⟩
          rw [ht] at p0 p1 hno1 hno2 hyd hyn ⊢
          obtain ⟨z, hz⟩ : ∃ z, other x (M : Int) = z := ⟨_, rfl⟩
          obtain ⟨y, hy⟩ : ∃ y, other t (M : Int) = y := ⟨_, rfl⟩
          rw [hz] at hno1 hzn
          rw [hy] at hno2 hyn
          have HZ := hid' hz
          have HY := hid' hy
          have HT := hid' ht
          have hf0 : decide (t < 0) = false := decide_eq_false (by omega)
          have e1 : (z == x) = false := beq_eq_false_iff_ne.2 hzn
          have e2 : (y == t) = false := beq_eq_false_iff_ne.2 hyn
          have HN1 := hid' hno1
          have HN2 := hid' hno2
          have hmi : (0 : Int) ≤ (m : Int) := by omega
          have hmi2 : (m : Int) < (D.length : Int) := by omega
          have FL := flat_row2 r2
          clear hb ht htd hno1 hno2 hx hlx hDc hi1 hi0 hz hy hzn hyn
          (go_wp2_with fail; (with_reducible refine (iTreeDigest_any _ D _ rv (by omega)).mono ?_))
          rintro _ w6 ⟨rfl, b6⟩
          rw [HT.out]
          have hcx6 : w6.cell? ⟨b, off + m, none⟩ = some (.int .i64 x) := (b6.cell (p := ⟨b, off + m, none⟩) hbB).trans hcx
          have s6 := b6.size
          replace r2 := r2.next b6 (by omega)
          have hbB6 : b < w6.heap.size := by omega
          clear hcx rv
          (go_wp2_with fail; (with_reducible refine (other_anyC x (M : Int) _ hdx.1 hdx.2 (by omega) (by omega)).mono ?_); rintro _ _ ⟨rfl, rfl⟩)
          rw [HZ.out]
          (go_wp2_with fail; (with_reducible refine (other_anyC t (M : Int) _ p0 p1 (by omega) (by omega)).mono ?_); rintro _ _ ⟨rfl, rfl⟩)
          rw [HY.out]
          (go_wp2_with fail; (with_reducible refine (iTreeCheck_b t (D.length : Int) (m : Int) z v2 (tproof D (m : Int)) _ false (RV.mono (B' := w6.heap.size) r2.rv (by omega)) FL (by omega) HN1.out).mono ?_))
          rintro _ w7 ⟨rfl, b7⟩
          have hcx7 : w7.cell? ⟨b, off + m, none⟩ = some (.int .i64 x) := (b7.cell (p := ⟨b, off + m, none⟩) hbB6).trans hcx6
          have s7 := b7.size
          replace r2 := r2.next b7 (by omega)
          (go_wp2_with fail; (with_reducible refine (iTreeCheck_b y (D.length : Int) (m : Int) x v2 (tproof D (m : Int)) _ false (RV.mono (B' := w7.heap.size) r2.rv (by omega)) FL (by omega) HN2.out).mono ?_))
          rintro _ w8 ⟨rfl, b8⟩
          go_wp2_with fail
          go_ret
          exact ⟨rfl, bstep (bstep (bstep bb4 b6) b7) b8⟩
theorem small_tree {D : List Int} (hb : leavesB D = true) {x : Int} (hx : D[0]? = some x) : tdigest (D.take 1) = dpair 1 x ∧ tproof (D.take 1) 0 = [] := by
  obtain ⟨h16, hd⟩ := leavesB_len hb
  have h1 : 1 ≤ D.length := by
    rcases Nat.lt_or_ge 0 D.length with h | h
    · exact h
    · rw [List.getElem?_eq_none h] at hx; cases hx
  have hl : (D.take 1).length = 1 := by rw [List.length_take]; omega
  constructor
  · rw [tdigest_pk (leavesB_take hb 1), peaks_take 1 h1 h16, hl, dpair_ok (by decide) (digs_get hx hd), ← lf_get hx]; rfl
  · have h2 : tproof (D.take 1) ((0 : Nat) : Int) = _ := tproof_yes (leavesB_take hb 1) (i := 0) (by omega)
    have h3 : (proofOf pr (lf (D.take 1)) 1 0).length = 0 := proofOf_len _ _ 1 0 (by omega) (by omega)
    rw [hl] at h2
    rw [show (0 : Int) = ((0 : Nat) : Int) from rfl, h2]
    exact List.eq_nil_of_length_eq_zero h3
set_option maxHeartbeats 8000000 in
set_option maxRecDepth 100000 in
theorem walk_FnTreeSmall (v0 : Value) (L0 : List Int) (w : World) (r0 : RV w w.heap.size v0 (L0.map (Value.int .u8))) (b0 : ∀ n ∈ L0, (Lit.int .u8 n).wf = true) :
    Calls Try.prog 5 #[v0] w fun e w' => e = .returned (.bool true) ∧ Below w.heap.size w w' := by
  have rr0 := r0
  obtain ⟨A0, cap0, rfl, hl0, hm0, hc0⟩ := r0
  rw [List.length_map] at rr0 hl0 ⊢
  clear hc0
  unfold maxLen at hm0
  rcases small_case L0.length with hb | hb0
  · go_enter Try.func5, Try.ntmps5
    go_wp2_with fail
    go_ret
    exact ⟨rfl, Below.refl _ _⟩
  · go_enter Try.func5, Try.ntmps5
    (go_wp2_with fail; (with_reducible refine (DrawTreeDigest_any _ L0 _ rr0 b0).mono ?_))
    rintro _ w1 ⟨v, D, rfl, hD, hlf, rD, bb⟩
    have s1 := bb.size
    obtain ⟨AD, cD, rfl, hDl, hDm, hDc⟩ := row_intsC rD
    have rv := RV.mono (B' := w1.heap.size) rD.rv (by omega)
    clear hDc
    (go_wp2_with fail; (with_reducible refine (iTreeDigest_any _ D _ rv (by omega)).mono ?_))
    rintro _ w2 ⟨rfl, b2⟩
    have s2 := b2.size
    replace rv := RV.mono (B' := w2.heap.size) (rv.below b2 (by omega)) (by omega)
    (go_wp2_with fail; (with_reducible refine (sTreeDigest_any _ D _ rv (by omega)).mono ?_))
    rintro _ w3 ⟨rfl, b3⟩
    have s3 := b3.size
    replace rv := RV.mono (B' := w3.heap.size) (rv.below b3 (by omega)) (by omega)
    have bb3 := bstep (bstep bb b2) b3
    clear bb b2 b3
    have eqd : (tdigest D == tdigest D) = true := by simp
    have ned : (tdigest D != tdigest D) = false := by simp
    cases hb : leavesB D
    · have hneg := tdigest_no hb
      rw [hneg] at eqd ned ⊢
      go_wp2_with fail
      go_ret
      exact ⟨rfl, bb3⟩
    · obtain ⟨d16, dd⟩ := leavesB_len hb
      have htd := tdigest_bd2 hb
      obtain ⟨p0, p1⟩ := digB_true.1 htd
      by_cases h0 : D.length = 0
      · obtain ⟨t, ht⟩ : ∃ t, tdigest D = t := ⟨_, rfl⟩
        rw [ht] at p0 p1 eqd ned ⊢
        have hnn : decide (t < 0) = false := decide_eq_false (by omega)
        have hz : ((D.length : Int) == 0) = true := beq_iff_eq.2 (by omega)
        clear hb ht h0 htd
        go_wp2_with fail
        go_ret
        exact ⟨rfl, bb3⟩
      · obtain ⟨A', c', hv', _, _, hDc⟩ := rv_intsC rv
        simp only [Value.slice.injEq] at hv'
        obtain ⟨rfl, _, rfl⟩ := hv'
        obtain ⟨b, off, rfl, hbB, hcell⟩ := hDc (by omega)
        obtain ⟨x, hx, _⟩ := get_int (L := D) (k := 0) (by omega)
        have hcx : w3.cell? ⟨b, off, none⟩ = some (.int .i64 x) := hcell 0 x hx
        obtain ⟨q1, q2⟩ := small_tree hb hx
        have S0 : w3.drew.cell? ⟨b, off, none⟩ = some (.int .i64 x) ∧ w3.drew.cell? ⟨b, off, none⟩ = some (.int .i64 x) ∧ LS w3 (.slice (some ⟨b, off, none⟩) D.length cD) (D.map (Value.int .i64)) ⟨b, off, none⟩ ⟨b, off, none⟩ w3.drew := ⟨hcx, hcx, rv, (Below.refl _ _).drew, hbB, hbB⟩
        have I0 := hid' (fun (W : World) (A : Option Addr) => iTreeDigest_any (.slice A 0 0) [] W (RV.nil_ _ _ _ _ (by decide)) (by simp))
        rw [show tdigest [] = 0 from rfl] at I0
        have I1 := hid' (fun (W : World) (r : W.cell? ⟨b, off, none⟩ = some (.int .i64 x) ∧ W.cell? ⟨b, off, none⟩ = some (.int .i64 x) ∧ LS w3 (.slice (some ⟨b, off, none⟩) D.length cD) (D.map (Value.int .i64)) ⟨b, off, none⟩ ⟨b, off, none⟩ W) => iTreeDigest_any (.slice (some ⟨b, off, none⟩) 1 cD) (D.take 1) W (by rw [List.map_take]; exact rv_take (k := 1) (ls_rv r) (by rw [List.length_map]; omega)) (by rw [List.length_take]; omega))
        have I2 := hid' (fun (W : World) (r : W.cell? ⟨b, off, none⟩ = some (.int .i64 x) ∧ W.cell? ⟨b, off, none⟩ = some (.int .i64 x) ∧ LS w3 (.slice (some ⟨b, off, none⟩) D.length cD) (D.map (Value.int .i64)) ⟨b, off, none⟩ ⟨b, off, none⟩ W) => iTreeProof_any (.slice (some ⟨b, off, none⟩) 1 cD) (D.take 1) 0 W (by rw [List.map_take]; exact rv_take (k := 1) (ls_rv r) (by rw [List.length_map]; omega)) (by rw [List.length_take]; omega))
        simp only [q1] at I1
        simp only [q2] at I2
        obtain ⟨t, ht⟩ : ∃ t, tdigest D = t := ⟨_, rfl⟩
        rw [ht] at p0 p1 eqd ned ⊢
        have hnn : decide (t < 0) = false := decide_eq_false (by omega)
        have hz : ((D.length : Int) == 0) = false := beq_eq_false_iff_ne.2 (by omega)
        have hcap1 : (1 : Int) ≤ (cD : Int) := by omega
        have hlen1 : D ≠ [] := by rintro rfl; simp at h0
        have hlen0 : 0 < D.length := by omega
        have hee : (dpair 1 x == dpair 1 x) = true := by simp
        obtain ⟨dp, hdp⟩ : ∃ dp, dpair 1 x = dp := ⟨_, rfl⟩
        rw [hdp] at hee I1
        have I3 := hid' (fun (W : World) => iDigestPair_any 1 x W)
        rw [hdp] at I3
        clear hb ht h0 htd hdp q1 q2 hx hcell hDc hcx rv rD
        go_wp2_with fail
        go_region_held3 (fun W => W.cell? ⟨b, off, none⟩ = some (.int .i64 x) ∧ W.cell? ⟨b, off, none⟩ = some (.int .i64 x) ∧ LS w3 (.slice (some ⟨b, off, none⟩) D.length cD) (D.map (Value.int .i64)) ⟨b, off, none⟩ ⟨b, off, none⟩ W)
          (first | (exact ls_step (by assumption) b8) | (exact ls_step (by assumption) b7) | (exact ls_step (by assumption) b6) | (exact ls_step (by assumption) (bnew _ _)) | (exact S0) | assumption)
          ((first
            | (go_at_call 19; (with_reducible refine (I0.out _ _).mono ?_); rintro _ w6 ⟨rfl, b6⟩)
            | (go_at_call 19; (with_reducible refine (I1.out _ (by assumption)).mono ?_); rintro _ w7 ⟨rfl, b7⟩)
            | (go_at_call 21; (with_reducible refine (I3.out _).mono ?_); rintro _ _ ⟨rfl, rfl⟩)
            | (go_at_call 15; (with_reducible refine (I2.out _ (by assumption)).mono ?_); rintro _ w8 ⟨v8, rfl, r8, b8⟩; obtain ⟨A8, c8, rfl, _⟩ := row_intsC r8)))
        go_wp2_with fail
        go_ret
        exact ⟨rfl, bstep bb3 (ls_bel (by assumption))⟩
end Go.Proofs.Ytnhpilipkeddiaa
