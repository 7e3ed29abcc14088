/- The walks of laws on checks of growth. -/
import Derived.Test.YtpbdehncmincaaaLawG
import Derived.Test.YtpbdehncmincaaaSCheck
namespace Go.Proofs.Ytpbdehncmincaaa
set_option linter.unusedVariables false
open Go.RowKit
theorem gcheck_parts {m old n d : Int} {l : List Int} (h : gcheck m old n d l = true) : ∃ M N : Nat, m = (M : Int) ∧ n = (N : Int) ∧ M ≤ N ∧ N ≤ 16 ∧ digs l = true ∧ l.length = (grow M N).length ∧ foldD (M : Int) (l.take (tr 0 M).length) = old ∧ gval M N (N : Int) l = d := by
  unfold gcheck at h
  simp only [Bool.and_eq_true, decide_eq_true_iff, beq_iff_eq] at h
  obtain ⟨⟨⟨⟨⟨h1, h2⟩, h3⟩, h4⟩, h5⟩, h6⟩ := h
  obtain ⟨a0, a1⟩ := inB_true.1 h1
  obtain ⟨b0, b1⟩ := inB_true.1 h2
  obtain ⟨N, rfl⟩ : ∃ N : Nat, n = (N : Int) := ⟨n.toNat, by omega⟩
  obtain ⟨M, rfl⟩ : ∃ M : Nat, m = (M : Int) := ⟨m.toNat, by omega⟩
  exact ⟨M, N, rfl, rfl, by omega, by omega, h3, h4, h5, h6⟩
theorem gfront_ok {M N : Nat} {l : List Int} (h1 : M ≤ N) (h2 : N ≤ 16) (hd : digs l = true) : gfront (M : Int) (N : Int) l = true := by
  unfold gfront
  rw [inB_true.2 ⟨by omega, by omega⟩, inB_true.2 ⟨by omega, by omega⟩, hd]; rfl
theorem gcheck_digs {m old n d : Int} {l : List Int} (h : gcheck m old n d l = true) : digs l = true := by
  obtain ⟨M, N, _, _, _, _, h3, _⟩ := gcheck_parts h
  exact h3
theorem gcheck_nine {m old n d : Int} {l : List Int} (h : gcheck m old n d l = true) : l.length ≤ 9 ∧ (l.length = 0 → n = 0) := by
  obtain ⟨M, N, rfl, rfl, h1, h2, _, h4, _⟩ := gcheck_parts h
  obtain ⟨p1, _, p2⟩ := grow_len M N h2 h1
  exact ⟨by omega, fun h0 => by have := p2 (by omega); omega⟩
theorem gcheck_other {m old n d x : Int} {l : List Int} (h : gcheck m old n d l = true) (hx : x ≠ d) : gcheck m old n x l = false := by
  obtain ⟨M, N, rfl, rfl, h1, h2, h3, h4, h5, h6⟩ := gcheck_parts h
  rw [gcheck_yes (gfront_ok h1 h2 h3) h4, h6, beq_eq_false_iff_ne.2 (fun e => hx e.symm), Bool.and_false]
theorem gcheck_old {m old n d x : Int} {l : List Int} (h : gcheck m old n d l = true) (hx : x ≠ old) : gcheck m x n d l = false := by
  obtain ⟨M, N, rfl, rfl, h1, h2, h3, h4, h5, h6⟩ := gcheck_parts h
  rw [gcheck_yes (gfront_ok h1 h2 h3) h4, h5, beq_eq_false_iff_ne.2 (fun e => hx e.symm), Bool.false_and]
theorem gcheck_longer {m old n d : Int} {l l' : List Int} (h : gcheck m old n d l = true) (hl : l'.length ≠ l.length) : gcheck m old n d l' = false := by
  obtain ⟨M, N, rfl, rfl, h1, h2, h3, h4, h5, h6⟩ := gcheck_parts h
  exact gcheck_len (by omega)
theorem digs_setH {l : List Int} {k : Nat} {z : Int} (hd : digs l = true) (hz : 0 ≤ z ∧ z ≤ 990) : digs (l.set k z) = true := LR_digs fun n hn => by
  rcases List.mem_or_eq_of_mem_set hn with h | h
  · exact dig_of hd n h
  · rw [h]; exact hz
theorem gcheck_changed {m old n d z : Int} {l : List Int} {k : Nat} (h : gcheck m old n d l = true) (hk : k < l.length) (hz : 0 ≤ z ∧ z ≤ 990) (hn : z ≠ lf l k) : gcheck m old n d (l.set k z) = false := by
  obtain ⟨M, N, rfl, rfl, h1, h2, h3, h4, h5, h6⟩ := gcheck_parts h
  rw [gcheck_yes (gfront_ok h1 h2 (digs_setH h3 hz)) (by rw [List.length_set]; exact h4)]
  have := growth_change M N h2 h1 h3 h4 hk (c := (N : Int)) ⟨by omega, by omega⟩ hz hn
  rw [h6] at this
  rw [beq_eq_false_iff_ne.2 (fun e => this e.symm), Bool.and_false]
/-- growth is accepted -/
theorem growth_accepted {L : List Int} {m : Nat} (hb : leavesB L = true) (hm : m ≤ L.length) : gcheck (m : Int) (tdigest (L.take m)) (L.length : Int) (tdigest L) (tgrowth L (m : Int)) = true := by
  obtain ⟨h16, hd⟩ := leavesB_len hb
  have hlt : (L.take m).length = m := by rw [List.length_take]; omega
  rw [tgrowth_yes hb hm, gcheck_yes (gfront_ok hm h16 (rts_digs hd _)) (by unfold rts; rw [List.length_map])]
  rw [Bool.and_eq_true, beq_iff_eq, beq_iff_eq]
  constructor
  · rw [tdigest_pk (leavesB_take hb m), hlt, peaks_take m hm h16]
    unfold grow
    rw [rts_app]
    congr 1
    exact List.take_left' (by unfold rts; rw [List.length_map])
  · unfold gval
    rw [growth_ok _ _ _ h16 hm, tdigest_pk hb]; rfl
theorem growth_accepted2 {L : List Int} {m k : Nat} (hb : leavesB L = true) (hm : m ≤ k) (hk : k ≤ L.length) : gcheck (m : Int) (tdigest (L.take m)) (k : Int) (tdigest (L.take k)) (tgrowth (L.take k) (m : Int)) = true := by
  have hlt : (L.take k).length = k := by rw [List.length_take]; omega
  have h := growth_accepted (L := L.take k) (m := m) (leavesB_take hb k) (by omega)
  rw [hlt, List.take_take, Nat.min_eq_left hm] at h
  exact h
theorem growth_none {L : List Int} (hb : leavesB L = true) : gcheck (L.length : Int) (tdigest L) (L.length : Int) (tdigest L) (tpeaks L) = true := by
  have h := growth_accepted (m := L.length) hb (Nat.le_refl _)
  rw [List.take_length, (growth_all hb).1] at h
  exact h
set_option maxHeartbeats 2000000 in
set_option maxRecDepth 100000 in
theorem walk_FnExactTreeGrowthCheck (a0 a1 a2 a3 : Int) (v0 : Value) (L0 : List Int) (w : World) (hw0 : (Lit.int .i64 a0).wf = true) (hw1 : (Lit.int .i64 a1).wf = true) (hw2 : (Lit.int .i64 a2).wf = true) (hw3 : (Lit.int .i64 a3).wf = true) (r0 : RV w w.heap.size v0 (L0.map (Value.int .i64))) (b0 : ∀ n ∈ L0, (Lit.int .i64 n).wf = true) :
    Calls Try.prog 4 #[.int .i64 a0, .int .i64 a1, .int .i64 a2, .int .i64 a3, v0] w fun e w' => e = .returned (.bool true) ∧ Below w.heap.size w w' := by
  have rr0 := r0
  obtain ⟨A0, cap0, rfl, hl0, hm0, hc0⟩ := r0
  rw [List.length_map] at rr0 hl0 ⊢
  clear hc0
  rcases small1 L0.length with hb | hs0
  · go_enter Try.func4, Try.ntmps4
    go_wp2_with fail
    go_ret
    exact ⟨rfl, Below.refl _ _⟩
  · go_enter Try.func4, Try.ntmps4
    obtain ⟨ok, hok⟩ : ∃ ok, gcheck a0 a1 a2 a3 L0 = ok := ⟨_, rfl⟩
    have HOK := hid' hok
    have e1 : (ok != ok) = false := by simp
    have e2 : (ok == ok) = true := by simp
    clear hok
    (go_wp2_with fail; (with_reducible refine (toIntS_any _ L0 _ _ rr0 (Nat.le_refl _) hs0).mono ?_))
    rintro _ w1 ⟨vp, rfl, rp, b1⟩
    have s1 := b1.size
    replace rr0 := rr0.below b1 (by omega)
    have bb := b1
    (go_wp2_with fail; (with_reducible refine (sGrowthCheck_b a0 a1 a2 a3 _ L0 _ ok (RV.mono (B' := w1.heap.size) rp.rv (by omega)) hs0 HOK.out).mono ?_))
    rintro _ w2 ⟨rfl, b2⟩
    have s2 := b2.size
    replace rr0 := rr0.below b2 (by omega)
    replace rp := rp.next b2 (by omega)
    replace bb := bstep bb b2
    (go_wp2_with fail; (with_reducible refine (toIntS_any _ L0 _ _ (RV.mono (B' := w2.heap.size) rr0 (by omega)) (Nat.le_refl _) hs0).mono ?_))
    rintro _ w3 ⟨vx, rfl, rx, b3⟩
    have s3 := b3.size
    replace rr0 := rr0.below b3 (by omega)
    replace rp := rp.next b3 (by omega)
    replace bb := bstep bb b3
    (go_wp2_with fail; (with_reducible refine (iGrowthCheck_b a0 a1 a2 a3 _ L0 _ ok (RV.mono (B' := w3.heap.size) rx.rv (by omega)) hs0 HOK.out).mono ?_))
    rintro _ w4 ⟨rfl, b4⟩
    have s4 := b4.size
    replace rr0 := rr0.below b4 (by omega)
    replace rp := rp.next b4 (by omega)
    replace rx := rx.next b4 (by omega)
    replace bb := bstep bb b4
    (go_wp2_with fail; (with_reducible refine (toIntS_any _ L0 _ _ (RV.mono (B' := w4.heap.size) rr0 (by omega)) (Nat.le_refl _) hs0).mono ?_))
    rintro _ w5 ⟨vy, rfl, ry, b5⟩
    have s5 := b5.size
    replace rr0 := rr0.below b5 (by omega)
    replace rp := rp.next b5 (by omega)
    replace rx := rx.next b5 (by omega)
    replace bb := bstep bb b5
    (go_wp2_with fail; (with_reducible refine (eqIntS_any _ _ L0 L0 _ _ true (RV.mono (B' := w5.heap.size) rx.rv (by omega)) (RV.mono (B' := w5.heap.size) ry.rv (by omega)) (Nat.le_refl _) (by omega) (eqI_self _)).mono ?_))
    rintro _ w6 ⟨rfl, b6⟩
    have s6 := b6.size
    replace rr0 := rr0.below b6 (by omega)
    replace rp := rp.next b6 (by omega)
    replace rx := rx.next b6 (by omega)
    replace ry := ry.next b6 (by omega)
    replace bb := bstep bb b6
    go_wp2_with fail
    go_ret
    exact ⟨rfl, bb⟩
set_option maxHeartbeats 8000000 in
set_option maxRecDepth 100000 in
theorem walk_FnGrowthNone (v0 : Value) (L0 : List Int) (v1 : Value) (L1 : List Int) (w : World) (r0 : RV w w.heap.size v0 (L0.map (Value.int .u8))) (b0 : ∀ n ∈ L0, (Lit.int .u8 n).wf = true) (r1 : RV w w.heap.size v1 (L1.map (Value.int .u8))) (_b1 : ∀ n ∈ L1, (Lit.int .u8 n).wf = true) :
    Calls Try.prog 7 #[v0, v1] w fun e w' => e = .returned (.bool true) ∧ Below w.heap.size w w' := by
  have rr0 := r0
  obtain ⟨A0, cap0, rfl, hl0, hm0, hc0⟩ := r0
  obtain ⟨A1, cap1, rfl, hl1, hm1, hc1⟩ := r1
  rw [List.length_map] at rr0 hl0 hl1 ⊢
  rw [List.length_map]
  clear hc0 hc1
  unfold maxLen at hm0 hm1
  obtain ⟨M, hM⟩ : ∃ M, M = L1.length := ⟨_, rfl⟩
  rw [← hM] at hl1 ⊢
  clear hM
  rcases small_cases L0.length M with hb | hb | ⟨hb0, hb1⟩
  · go_enter Try.func7, Try.ntmps7
    go_wp2_with fail
    go_ret
    exact ⟨rfl, Below.refl _ _⟩
  · go_enter Try.func7, Try.ntmps7
    go_wp2_with fail
    go_ret
    exact ⟨rfl, Below.refl _ _⟩
  · go_enter Try.func7, Try.ntmps7
    (go_wp2_with fail; (with_reducible refine (DrawTreeDigest_any _ L0 _ rr0 b0).mono ?_))
    rintro _ w1 ⟨v, D, rfl, hD, hlf, rD, bb⟩
    have s1 := bb.size
    obtain ⟨AD, cD, rfl, hDl, hDm, hDc⟩ := row_intsC rD
    have rv := RV.mono (B' := w1.heap.size) rD.rv (by omega)
    clear hDc
    (go_wp2_with fail; (with_reducible refine (iTreeDigest_any _ D _ rv (by omega)).mono ?_))
    rintro _ w2 ⟨rfl, b2⟩
    have s2 := b2.size
    replace rv := RV.mono (B' := w2.heap.size) (rv.below b2 (by omega)) (by omega)
    (go_wp2_with fail; (with_reducible refine (sTreeDigest_any _ D _ rv (by omega)).mono ?_))
    rintro _ w3 ⟨rfl, b3⟩
    have s3 := b3.size
    replace rv := RV.mono (B' := w3.heap.size) (rv.below b3 (by omega)) (by omega)
    have bb3 := bstep (bstep bb b2) b3
    clear bb b2 b3
    have eqd : (tdigest D == tdigest D) = true := by simp
    have ned : (tdigest D != tdigest D) = false := by simp
    cases hb : leavesB D
    · have hneg := tdigest_no hb
      rw [hneg] at eqd ned ⊢
      go_wp2_with fail
      go_ret
      exact ⟨rfl, bb3⟩
    · obtain ⟨d16, dd⟩ := leavesB_len hb
      have htd := tdigest_bd2 hb
      obtain ⟨p0, p1⟩ := digB_true.1 htd
      have hok := growth_none hb
      have hpl := tpeaks_len D
      obtain ⟨t, ht⟩ : ∃ t, tdigest D = t := ⟨_, rfl⟩
      rw [ht] at p0 p1 eqd ned hok ⊢
      have hnn : decide (t < 0) = false := decide_eq_false (by omega)
      have HOK := hid' hok
      have hzn := other_ne t ((M : Int) % 989) ⟨p0, p1⟩ (by omega)
      have HNO := hid' (gcheck_other hok hzn)
      clear hb ht htd hok hzn
      (go_wp2_with fail; (with_reducible refine (iTreePeaks_any _ D _ rv (by omega)).mono ?_))
      rintro _ w4 ⟨v4, rfl, r4, b4⟩
      have s4 := b4.size
      have bb4 := bstep bb3 b4
      have rv4 := RV.mono (B' := w4.heap.size) r4.rv (by omega)
      clear b4 bb3
      (go_wp2_with fail; (with_reducible refine (iGrowthCheck_b (D.length : Int) t (D.length : Int) t _ (tpeaks D) _ true rv4 (by omega) HOK.out).mono ?_))
      rintro _ w5 ⟨rfl, b5⟩
      have s5 := b5.size
      replace r4 := r4.next b5 (by omega)
      have bb5 := bstep bb4 b5
      have hk : (M : Int).tmod 989 = (M : Int) % 989 := Int.tmod_eq_emod_of_nonneg (by omega)
      (go_wp2_with fail; (with_reducible refine (other_anyC t ((M : Int) % 989) _ p0 p1 (by omega) (by omega)).mono ?_); rintro _ _ ⟨rfl, rfl⟩)
      (go_wp2_with fail; (with_reducible refine (iGrowthCheck_b (D.length : Int) t (D.length : Int) _ _ (tpeaks D) _ false (RV.mono (B' := w5.heap.size) r4.rv (by omega)) (by omega) HNO.out).mono ?_))
      rintro _ w6 ⟨rfl, b6⟩
      go_wp2_with fail
      go_ret
      exact ⟨rfl, bstep bb5 b6⟩
set_option maxHeartbeats 8000000 in
set_option maxRecDepth 100000 in
theorem walk_FnGrowth (v0 : Value) (L0 : List Int) (w : World) (r0 : RV w w.heap.size v0 (L0.map (Value.int .u8))) (b0 : ∀ n ∈ L0, (Lit.int .u8 n).wf = true) :
    Calls Try.prog 8 #[v0] w fun e w' => e = .returned (.bool true) ∧ Below w.heap.size w w' := by
  have rr0 := r0
  obtain ⟨A0, cap0, rfl, hl0, hm0, hc0⟩ := r0
  rw [List.length_map] at rr0 hl0 ⊢
  clear hc0
  unfold maxLen at hm0
  rcases small_case L0.length with hb | hb0
  · go_enter Try.func8, Try.ntmps8
    go_wp2_with fail
    go_ret
    exact ⟨rfl, Below.refl _ _⟩
  · go_enter Try.func8, Try.ntmps8
    (go_wp2_with fail; (with_reducible refine (DrawTreeGrowth_any _ L0 _ rr0 b0).mono ?_))
    rintro _ w1 ⟨v, D, i, rfl, hD, hlf, rD, bb⟩
    have s1 := bb.size
    obtain ⟨AD, cD, rfl, hDl, hDm, hDc⟩ := row_intsC rD
    have rv := RV.mono (B' := w1.heap.size) rD.rv (by omega)
    have hrl0 := tgrowth_len D i
    have hrl : (tgrowth D i).length ≤ 33554432 := by omega
    clear hDc
    (go_wp2_with fail; (with_reducible refine (iTreeGrowth_any _ D i _ rv (by omega)).mono ?_))
    rintro _ w2 ⟨v2, rfl, r2, b2⟩
    have s2 := b2.size
    replace rv := RV.mono (B' := w2.heap.size) (rv.below b2 (by omega)) (by omega)
    (go_wp2_with fail; (with_reducible refine (sTreeGrowth_any _ D i _ rv (by omega)).mono ?_))
    rintro _ w3 ⟨v3, rfl, r3, b3⟩
    have s3 := b3.size
    replace r2 := r2.next b3 (by omega)
    replace rv := RV.mono (B' := w3.heap.size) (rv.below b3 (by omega)) (by omega)
    (go_wp2_with fail; (with_reducible refine (sameInts_any _ _ (tgrowth D i) (tgrowth D i) _ _ true (RV.mono (B' := w3.heap.size) r2.rv (by omega)) (RV.mono (B' := w3.heap.size) r3.rv (by omega)) (Nat.le_refl _) hrl (eqI_self _)).mono ?_))
    rintro _ w4 ⟨rfl, b4⟩
    have s4 := b4.size
    replace r2 := r2.next b4 (by omega)
    replace r3 := r3.next b4 (by omega)
    replace rv := RV.mono (B' := w4.heap.size) (rv.below b4 (by omega)) (by omega)
    have bb4 := bstep (bstep (bstep bb b2) b3) b4
    clear bb b2 b3 b4
    (go_wp2_with fail; (with_reducible refine (iTreeDigest_any _ D _ rv (by omega)).mono ?_))
    rintro _ w5 ⟨rfl, b5⟩
    have s5 := b5.size
    replace r2 := r2.next b5 (by omega)
    replace r3 := r3.next b5 (by omega)
    replace rv := RV.mono (B' := w5.heap.size) (rv.below b5 (by omega)) (by omega)
    replace bb4 := bstep bb4 b5
    clear b5
    cases hb : leavesB D
    · have hneg := tdigest_no hb
      have HL0 : tgrowth D i = [] := tgrowth_no (fun hh => by rw [hb] at hh; cases hh.1)
      rw [HL0] at r2
      obtain ⟨A2, c2, hv2, _, _, _⟩ := row_intsC r2
      have hv3 : v2 = .slice A2 0 c2 := hv2
      subst hv3
      clear HL0 hv2
      rw [hneg]
      go_wp2_with fail
      go_ret
      exact ⟨rfl, bb4⟩
    · obtain ⟨d16, dd⟩ := leavesB_len hb
      have htd := tdigest_bd2 hb
      obtain ⟨p0, p1⟩ := digB_true.1 htd
      by_cases hi0 : i < 0
      · have hf1 : decide (i < 0) = true := decide_eq_true hi0
        have HL0 : tgrowth D i = [] := tgrowth_no (fun hh => by omega)
        rw [HL0] at r2
        obtain ⟨A2, c2, hv2, _, _, _⟩ := row_intsC r2
        have hv3 : v2 = .slice A2 0 c2 := hv2
        subst hv3
        clear HL0 hv2
        obtain ⟨t, ht⟩ : ∃ t, tdigest D = t := ⟨_, rfl⟩
        rw [ht] at p0 p1 ⊢
        have hf0 : decide (t < 0) = false := decide_eq_false (by omega)
        clear hb ht htd
        go_wp2_with fail
        go_ret
        exact ⟨rfl, bb4⟩
      · have hf1 : decide (i < 0) = false := decide_eq_false hi0
        by_cases hi1 : (D.length : Int) < i
        · have hf2 : decide ((D.length : Int) < i) = true := decide_eq_true hi1
          have HL0 : tgrowth D i = [] := tgrowth_no (fun hh => by omega)
          rw [HL0] at r2
          obtain ⟨A2, c2, hv2, _, _, _⟩ := row_intsC r2
          have hv3 : v2 = .slice A2 0 c2 := hv2
          subst hv3
          clear HL0 hv2
          obtain ⟨t, ht⟩ : ∃ t, tdigest D = t := ⟨_, rfl⟩
          rw [ht] at p0 p1 ⊢
          have hf0 : decide (t < 0) = false := decide_eq_false (by omega)
          clear hb ht htd
          go_wp2_with fail
          go_ret
          exact ⟨rfl, bb4⟩
        · have hf2 : decide ((D.length : Int) < i) = false := decide_eq_false hi1
          obtain ⟨m, rfl⟩ : ∃ m : Nat, i = (m : Int) := ⟨i.toNat, by omega⟩
          have hmn : m ≤ D.length := by omega
          obtain ⟨t, ht⟩ : ∃ t, tdigest D = t := ⟨_, rfl⟩
          have HT := hid' ht
          rw [ht] at p0 p1 ⊢
          have hf0 : decide (t < 0) = false := decide_eq_false (by omega)
          have hmc : (m : Int) ≤ (cD : Int) := by omega
          have hml : (m : Int) ≤ (D.length : Int) := by omega
          have rm := rv_take (k := m) rv (by rw [List.length_map]; omega)
          rw [← List.map_take] at rm
          have htl : (D.take m).length ≤ 1048576 := by rw [List.length_take]; omega
          have HB := hid' hb
          clear ht htd hi1 hi0 hb
          have hok := growth_accepted HB.out hmn
          rw [HT.out] at hok
          obtain ⟨t2, ht2⟩ : ∃ t2, tdigest (D.take m) = t2 := ⟨_, rfl⟩
          have HT2 := hid' ht2
          rw [ht2] at hok
          have HOK := hid' hok
          clear hok ht2
          (go_wp2_with fail; (with_reducible refine (iTreeDigest_any _ (D.take m) _ rm htl).mono ?_))
          rintro _ w6 ⟨rfl, b6⟩
          rw [HT2.out]
          have s6 := b6.size
          replace r2 := r2.next b6 (by omega)
          replace rv := RV.mono (B' := w6.heap.size) (rv.below b6 (by omega)) (by omega)
          have bb6 := bstep bb4 b6
          (go_wp2_with fail; (with_reducible refine (iTreeDigest_any _ D _ rv (by omega)).mono ?_))
          rintro _ w7 ⟨rfl, b7⟩
          rw [HT.out]
          have s7 := b7.size
          replace r2 := r2.next b7 (by omega)
          have bb7 := bstep bb6 b7
          (go_wp2_with fail; (with_reducible refine (iGrowthCheck_b (m : Int) t2 (D.length : Int) t _ (tgrowth D (m : Int)) _ true (RV.mono (B' := w7.heap.size) r2.rv (by omega)) (by omega) HOK.out).mono ?_))
          rintro _ w8 ⟨rfl, b8⟩
          go_wp2_with fail
          go_ret
          exact ⟨rfl, bstep bb7 b8⟩
set_option maxHeartbeats 8000000 in
set_option maxRecDepth 100000 in
theorem walk_FnGrowthSteps (v0 : Value) (L0 : List Int) (v1 : Value) (L1 : List Int) (w : World) (r0 : RV w w.heap.size v0 (L0.map (Value.int .u8))) (b0 : ∀ n ∈ L0, (Lit.int .u8 n).wf = true) (r1 : RV w w.heap.size v1 (L1.map (Value.int .u8))) (_b1 : ∀ n ∈ L1, (Lit.int .u8 n).wf = true) :
    Calls Try.prog 9 #[v0, v1] w fun e w' => e = .returned (.bool true) ∧ Below w.heap.size w w' := by
  have rr0 := r0
  obtain ⟨A0, cap0, rfl, hl0, hm0, hc0⟩ := r0
  obtain ⟨A1, cap1, rfl, hl1, hm1, hc1⟩ := r1
  rw [List.length_map] at rr0 hl0 hl1 ⊢
  rw [List.length_map]
  clear hc0 hc1
  unfold maxLen at hm0 hm1
  obtain ⟨M, hM⟩ : ∃ M, M = L1.length := ⟨_, rfl⟩
  rw [← hM] at hl1 ⊢
  clear hM
  rcases small_cases L0.length M with hb | hb | ⟨hb0, hb1⟩
  · go_enter Try.func9, Try.ntmps9
    go_wp2_with fail
    go_ret
    exact ⟨rfl, Below.refl _ _⟩
  · go_enter Try.func9, Try.ntmps9
    go_wp2_with fail
    go_ret
    exact ⟨rfl, Below.refl _ _⟩
  · go_enter Try.func9, Try.ntmps9
    (go_wp2_with fail; (with_reducible refine (DrawTreeGrowth_any _ L0 _ rr0 b0).mono ?_))
    rintro _ w1 ⟨v, D, i, rfl, hD, hlf, rD, bb⟩
    have s1 := bb.size
    obtain ⟨AD, cD, rfl, hDl, hDm, hDc⟩ := row_intsC rD
    have rv := RV.mono (B' := w1.heap.size) rD.rv (by omega)
    have hrl0 := tgrowth_len D i
    have hrl : (tgrowth D i).length ≤ 33554432 := by omega
    clear hDc
    (go_wp2_with fail; (with_reducible refine (iTreeGrowth_any _ D i _ rv (by omega)).mono ?_))
    rintro _ w2 ⟨v2, rfl, r2, b2⟩
    have s2 := b2.size
    replace rv := RV.mono (B' := w2.heap.size) (rv.below b2 (by omega)) (by omega)
    (go_wp2_with fail; (with_reducible refine (sTreeGrowth_any _ D i _ rv (by omega)).mono ?_))
    rintro _ w3 ⟨v3, rfl, r3, b3⟩
    have s3 := b3.size
    replace r2 := r2.next b3 (by omega)
    replace rv := RV.mono (B' := w3.heap.size) (rv.below b3 (by omega)) (by omega)
    (go_wp2_with fail; (with_reducible refine (sameInts_any _ _ (tgrowth D i) (tgrowth D i) _ _ true (RV.mono (B' := w3.heap.size) r2.rv (by omega)) (RV.mono (B' := w3.heap.size) r3.rv (by omega)) (Nat.le_refl _) hrl (eqI_self _)).mono ?_))
    rintro _ w4 ⟨rfl, b4⟩
    have s4 := b4.size
    replace r2 := r2.next b4 (by omega)
    replace r3 := r3.next b4 (by omega)
    replace rv := RV.mono (B' := w4.heap.size) (rv.below b4 (by omega)) (by omega)
    have bb4 := bstep (bstep (bstep bb b2) b3) b4
    clear bb b2 b3 b4
    (go_wp2_with fail; (with_reducible refine (sTreeDigest_any _ D _ rv (by omega)).mono ?_))
    rintro _ w5 ⟨rfl, b5⟩
    have s5 := b5.size
    replace r2 := r2.next b5 (by omega)
    replace r3 := r3.next b5 (by omega)
    replace rv := RV.mono (B' := w5.heap.size) (rv.below b5 (by omega)) (by omega)
    replace bb4 := bstep bb4 b5
    clear b5
    cases hb : leavesB D
    · have hneg := tdigest_no hb
      rw [hneg]
      (go_wp2_with fail; (with_reducible refine (sameInts_any _ _ (tgrowth D i) (tgrowth D i) _ _ true (RV.mono (B' := w5.heap.size) r2.rv (by omega)) (RV.mono (B' := w5.heap.size) r3.rv (by omega)) (Nat.le_refl _) hrl (eqI_self _)).mono ?_))
      rintro _ w6 ⟨rfl, b6⟩
      go_wp2_with fail
      go_ret
      exact ⟨rfl, bstep bb4 b6⟩
    · obtain ⟨d16, dd⟩ := leavesB_len hb
      have htd := tdigest_bd2 hb
      obtain ⟨p0, p1⟩ := digB_true.1 htd
      by_cases hi0 : i < 0
      · have hf1 : decide (i < 0) = true := decide_eq_true hi0
        obtain ⟨t, ht⟩ : ∃ t, tdigest D = t := ⟨_, rfl⟩
        rw [ht] at p0 p1 ⊢
        have hf0 : decide (t < 0) = false := decide_eq_false (by omega)
        clear hb ht htd
        (go_wp2_with fail; (with_reducible refine (sameInts_any _ _ (tgrowth D i) (tgrowth D i) _ _ true (RV.mono (B' := w5.heap.size) r2.rv (by omega)) (RV.mono (B' := w5.heap.size) r3.rv (by omega)) (Nat.le_refl _) hrl (eqI_self _)).mono ?_))
        rintro _ w6 ⟨rfl, b6⟩
        go_wp2_with fail
        go_ret
        exact ⟨rfl, bstep bb4 b6⟩
      · have hf1 : decide (i < 0) = false := decide_eq_false hi0
        by_cases hi1 : (D.length : Int) < i
        · have hf2 : decide ((D.length : Int) < i) = true := decide_eq_true hi1
          obtain ⟨t, ht⟩ : ∃ t, tdigest D = t := ⟨_, rfl⟩
          rw [ht] at p0 p1 ⊢
          have hf0 : decide (t < 0) = false := decide_eq_false (by omega)
          clear hb ht htd
          (go_wp2_with fail; (with_reducible refine (sameInts_any _ _ (tgrowth D i) (tgrowth D i) _ _ true (RV.mono (B' := w5.heap.size) r2.rv (by omega)) (RV.mono (B' := w5.heap.size) r3.rv (by omega)) (Nat.le_refl _) hrl (eqI_self _)).mono ?_))
          rintro _ w6 ⟨rfl, b6⟩
          go_wp2_with fail
          go_ret
          exact ⟨rfl, bstep bb4 b6⟩
        · have hf2 : decide ((D.length : Int) < i) = false := decide_eq_false hi1
          obtain ⟨m, rfl⟩ : ∃ m : Nat, i = (m : Int) := ⟨i.toNat, by omega⟩
          have hmn : m ≤ D.length := by omega
          obtain ⟨t, ht⟩ : ∃ t, tdigest D = t := ⟨_, rfl⟩
          have HT := hid' ht
          rw [ht] at p0 p1 ⊢
          have hf0 : decide (t < 0) = false := decide_eq_false (by omega)
          have hmc : (m : Int) ≤ (cD : Int) := by omega
          have hml : (m : Int) ≤ (D.length : Int) := by omega
          have rm := rv_take (k := m) rv (by rw [List.length_map]; omega)
          rw [← List.map_take] at rm
          have htl : (D.take m).length ≤ 1048576 := by rw [List.length_take]; omega
          have HB := hid' hb
          clear ht htd hi1 hi0 hb
          obtain ⟨k0, hk0⟩ : ∃ k0 : Nat, k0 = M % (D.length - m + 1) := ⟨_, rfl⟩
          have hk0l : k0 ≤ D.length - m := by have : M % (D.length - m + 1) < D.length - m + 1 := Nat.mod_lt _ (by omega); omega
          have u1 : (M : Int).tmod ((D.length : Int) - (m : Int) + 1) = (k0 : Int) := by
            rw [Int.tmod_eq_emod_of_nonneg (by omega), show (D.length : Int) - (m : Int) + 1 = ((D.length - m + 1 : Nat) : Int) by omega, hk0]; rfl
          have u2 : (M : Int) % ((D.length : Int) - (m : Int) + 1) = (k0 : Int) := by
            rw [show (D.length : Int) - (m : Int) + 1 = ((D.length - m + 1 : Nat) : Int) by omega, hk0]; rfl
          have u3 : (((D.length : Int) - (m : Int) + 1) == 0) = false := beq_eq_false_iff_ne.2 (by omega)
          clear hk0
          obtain ⟨k, hk⟩ : ∃ k : Nat, k = m + k0 := ⟨_, rfl⟩
          have hmk : m ≤ k := by omega
          have hkl : k ≤ D.length := by omega
          have u4 : (m : Int) + (k0 : Int) = (k : Int) := by omega
          have hkc : (k : Int) ≤ (cD : Int) := by omega
          have hok1 := growth_accepted2 HB.out hmk hkl
          have hok2 := growth_accepted HB.out hkl
          rw [HT.out] at hok2
          obtain ⟨a, ha⟩ : ∃ a, tdigest (D.take m) = a := ⟨_, rfl⟩
          obtain ⟨b, hb'⟩ : ∃ b, tdigest (D.take k) = b := ⟨_, rfl⟩
          rw [ha, hb'] at hok1
          rw [hb'] at hok2
          have HA := hid' ha
          have HBB := hid' hb'
          have HO1 := hid' hok1
          have HO2 := hid' hok2
          have HK := hid' hk
          have hg1 := tgrowth_len (D.take k) (m : Int)
          have hg2 := tgrowth_len D (k : Int)
          have htk : (D.take k).length ≤ 1048576 := by rw [List.length_take]; omega
          clear hok1 hok2 ha hb' hk
          (go_wp2_with fail; (with_reducible refine (iTreeDigest_any _ (D.take m) _ rm htl).mono ?_))
          rintro _ w6 ⟨rfl, b6⟩
          rw [HA.out]
          have s6 := b6.size
          replace rv := RV.mono (B' := w6.heap.size) (rv.below b6 (by omega)) (by omega)
          have bb6 := bstep bb4 b6
          have rk := rv_take (k := k) rv (by rw [List.length_map]; omega)
          rw [← List.map_take] at rk
          (go_wp2_with fail; (with_reducible refine (iTreeDigest_any _ (D.take k) _ rk htk).mono ?_))
          rintro _ w7 ⟨rfl, b7⟩
          rw [HBB.out]
          have s7 := b7.size
          replace rv := RV.mono (B' := w7.heap.size) (rv.below b7 (by omega)) (by omega)
          replace rk := RV.mono (B' := w7.heap.size) (rk.below b7 (by omega)) (by omega)
          have bb7 := bstep bb6 b7
          (go_wp2_with fail; (with_reducible refine (iTreeGrowth_any _ (D.take k) (m : Int) _ rk htk).mono ?_))
          rintro _ w8 ⟨v8, rfl, r8, b8⟩
          have s8 := b8.size
          replace rv := RV.mono (B' := w8.heap.size) (rv.below b8 (by omega)) (by omega)
          have bb8 := bstep bb7 b8
          (go_wp2_with fail; (with_reducible refine (iGrowthCheck_b (m : Int) a (k : Int) b _ (tgrowth (D.take k) (m : Int)) _ true (RV.mono (B' := w8.heap.size) r8.rv (by omega)) (by omega) HO1.out).mono ?_))
          rintro _ w9 ⟨rfl, b9⟩
          have s9 := b9.size
          replace rv := RV.mono (B' := w9.heap.size) (rv.below b9 (by omega)) (by omega)
          have bb9 := bstep bb8 b9
          (go_wp2_with fail; (with_reducible refine (iTreeDigest_any _ D _ rv (by omega)).mono ?_))
          rintro _ w10 ⟨rfl, b10⟩
          rw [HT.out]
          have s10 := b10.size
          replace rv := RV.mono (B' := w10.heap.size) (rv.below b10 (by omega)) (by omega)
          have bb10 := bstep bb9 b10
          (go_wp2_with fail; (with_reducible refine (iTreeGrowth_any _ D (k : Int) _ rv (by omega)).mono ?_))
          rintro _ w11 ⟨v11, rfl, r11, b11⟩
          have s11 := b11.size
          have bb11 := bstep bb10 b11
          (go_wp2_with fail; (with_reducible refine (iGrowthCheck_b (k : Int) b (D.length : Int) t _ (tgrowth D (k : Int)) _ true (RV.mono (B' := w11.heap.size) r11.rv (by omega)) (by omega) HO2.out).mono ?_))
          rintro _ w12 ⟨rfl, b12⟩
          go_wp2_with fail
          go_ret
          exact ⟨rfl, bstep bb11 b12⟩
end Go.Proofs.Ytpbdehncmincaaa
