/- The walks of laws on the growth of trees. -/
import Derived.Test.YtpbdehncmincaaaGrowth
import Derived.Test.YtpbdehncmincaaaDrawT
namespace Go.Proofs.Ytpbdehncmincaaa
set_option linter.unusedVariables false
open Go.RowKit
theorem small1 (n : Nat) : 1048576 < n ∨ n ≤ 1048576 := by omega
theorem tdigest_bd2 {L : List Int} (h : leavesB L = true) : digB (tdigest L) = true := by
  obtain ⟨h16, hd⟩ := leavesB_len h
  rw [tdigest_pk h]
  exact foldD_dig _ _ (digB_true.2 ⟨by omega, by omega⟩)
theorem growth_begins {L : List Int} {k : Nat} (hb : leavesB L = true) (hk : k ≤ L.length) : (tgrowth L (k : Int)).take (tpeaks (L.take k)).length = tpeaks (L.take k) ∧ (tpeaks (L.take k)).length ≤ (tgrowth L (k : Int)).length := by
  obtain ⟨h16, hd⟩ := leavesB_len hb
  rw [tgrowth_yes hb hk, tpeaks_pk (leavesB_take hb k), peaks_take k hk h16]
  unfold grow
  rw [rts_app]
  exact ⟨List.take_left, by rw [List.length_append]; omega⟩
theorem growth_all {L : List Int} (hb : leavesB L = true) : tgrowth L (L.length : Int) = tpeaks L ∧ tgrowth L 0 = tpeaks L := by
  obtain ⟨h16, hd⟩ := leavesB_len hb
  have T : ∀ n : Fin 17, grow n.1 n.1 = tr 0 n.1 ∧ grow 0 n.1 = tr 0 n.1 := by decide +kernel
  obtain ⟨t1, t2⟩ := T ⟨L.length, by omega⟩
  have e := tgrowth_yes hb (m := 0) (by omega)
  rw [tgrowth_yes hb (Nat.le_refl _), tpeaks_pk hb, show tgrowth L 0 = rts pr (lf L) (grow 0 L.length) from e]
  simp only at t1 t2
  rw [t1, t2]; exact ⟨rfl, rfl⟩
set_option maxHeartbeats 8000000 in
set_option maxRecDepth 100000 in
theorem walk_FnExactTreeGrowth (v0 : Value) (L0 : List Int) (a1 : Int) (w : World) (r0 : RV w w.heap.size v0 (L0.map (Value.int .i64))) (b0 : ∀ n ∈ L0, (Lit.int .i64 n).wf = true) (hw1 : (Lit.int .i64 a1).wf = true) :
    Calls Try.prog 3 #[v0, .int .i64 a1] w fun e w' => e = .returned (.bool true) ∧ Below w.heap.size w w' := by
  have rr0 := r0
  obtain ⟨A0, cap0, rfl, hl0, hm0, hc0⟩ := r0
  rw [List.length_map] at rr0 hl0 ⊢
  clear hc0
  rcases small1 L0.length with hb | hs0
  · go_enter Try.func3, Try.ntmps3
    go_wp2_with fail
    go_ret
    exact ⟨rfl, Below.refl _ _⟩
  · go_enter Try.func3, Try.ntmps3
    have hwl : (tgrowth L0 a1).length ≤ 33554432 := by have := tgrowth_len L0 a1; omega
    (go_wp2_with fail; (with_reducible refine (toIntS_any _ L0 _ _ rr0 (Nat.le_refl _) hs0).mono ?_))
    rintro _ w1 ⟨vp0, rfl, rp0, b1⟩
    have s1 := b1.size
    replace rr0 := rr0.below b1 (by omega)
    have bb := b1
    (go_wp2_with fail; (with_reducible refine (sTreeGrowth_any _ L0 a1 _ (RV.mono (B' := w1.heap.size) rp0.rv (by omega)) hs0).mono ?_))
    rintro _ w2 ⟨vw0, rfl, rw0, b2⟩
    have s2 := b2.size
    replace rr0 := rr0.below b2 (by omega)
    replace rp0 := rp0.next b2 (by omega)
    replace bb := bstep bb b2
    (go_wp2_with fail; (with_reducible refine (toIntS_any _ L0 _ _ (RV.mono (B' := w2.heap.size) rr0 (by omega)) (Nat.le_refl _) hs0).mono ?_))
    rintro _ w3 ⟨vx0, rfl, rx0, b3⟩
    have s3 := b3.size
    replace rr0 := rr0.below b3 (by omega)
    replace rp0 := rp0.next b3 (by omega)
    replace rw0 := rw0.next b3 (by omega)
    replace bb := bstep bb b3
    (go_wp2_with fail; (with_reducible refine (iTreeGrowth_any _ L0 a1 _ (RV.mono (B' := w3.heap.size) rx0.rv (by omega)) hs0).mono ?_))
    rintro _ w4 ⟨vg0, rfl, rg0, b4⟩
    have s4 := b4.size
    replace rr0 := rr0.below b4 (by omega)
    replace rp0 := rp0.next b4 (by omega)
    replace rw0 := rw0.next b4 (by omega)
    replace rx0 := rx0.next b4 (by omega)
    replace bb := bstep bb b4
    (go_wp2_with fail; (with_reducible refine (eqIntS_any _ _ (tgrowth L0 a1) (tgrowth L0 a1) _ _ true (RV.mono (B' := w4.heap.size) rg0.rv (by omega)) (RV.mono (B' := w4.heap.size) rw0.rv (by omega)) (Nat.le_refl _) (hwl) (eqI_self _)).mono ?_))
    rintro _ w5 ⟨rfl, b5⟩
    have s5 := b5.size
    replace rr0 := rr0.below b5 (by omega)
    replace rp0 := rp0.next b5 (by omega)
    replace rw0 := rw0.next b5 (by omega)
    replace rx0 := rx0.next b5 (by omega)
    replace rg0 := rg0.next b5 (by omega)
    replace bb := bstep bb b5
    (go_wp2_with fail; (with_reducible refine (toIntS_any _ L0 _ _ (RV.mono (B' := w5.heap.size) rr0 (by omega)) (Nat.le_refl _) hs0).mono ?_))
    rintro _ w6 ⟨vy0, rfl, ry0, b6⟩
    have s6 := b6.size
    replace rr0 := rr0.below b6 (by omega)
    replace rp0 := rp0.next b6 (by omega)
    replace rw0 := rw0.next b6 (by omega)
    replace rx0 := rx0.next b6 (by omega)
    replace rg0 := rg0.next b6 (by omega)
    replace bb := bstep bb b6
    (go_wp2_with fail; (with_reducible refine (eqIntS_any _ _ L0 L0 _ _ true (RV.mono (B' := w6.heap.size) rx0.rv (by omega)) (RV.mono (B' := w6.heap.size) ry0.rv (by omega)) (Nat.le_refl _) (by omega) (eqI_self _)).mono ?_))
    rintro _ w7 ⟨rfl, b7⟩
    have s7 := b7.size
    replace rr0 := rr0.below b7 (by omega)
    replace rp0 := rp0.next b7 (by omega)
    replace rw0 := rw0.next b7 (by omega)
    replace rx0 := rx0.next b7 (by omega)
    replace rg0 := rg0.next b7 (by omega)
    replace ry0 := ry0.next b7 (by omega)
    replace bb := bstep bb b7
    have z8 := rx0
    (go_wp2_with fail; (with_reducible refine (markIntS_any _ L0 _ _ _ _ rx0 (by omega) (by omega) (by omega)).mono ?_))
    rintro _ w8 ⟨rfl, nx0, g8⟩
    have s8 := g8.size
    have c8 := below_row z8 g8 (by omega)
    replace rr0 := rr0.below c8 (by omega)
    replace rp0 := rp0.grown g8 (fun k hk => by have p1 := (World.ownsRow.lt z8.1 k hk).1; have p2 := z8.2 k hk; omega)
    replace rw0 := rw0.grown g8 (fun k hk => by have p1 := (World.ownsRow.lt z8.1 k hk).1; have p2 := z8.2 k hk; omega)
    replace rg0 := rg0.grown g8 (fun k hk => by have p1 := (World.ownsRow.lt z8.1 k hk).1; have p2 := z8.2 k hk; omega)
    replace ry0 := ry0.grown g8 (fun k hk => by have p1 := (World.ownsRow.lt z8.1 k hk).1; have p2 := z8.2 k hk; omega)
    replace rx0 := nx0
    replace bb := bb.trans (c8.mono (by omega))
    clear z8 c8 g8
    (go_wp2_with fail; (with_reducible refine (eqIntS_any _ _ (tgrowth L0 a1) (tgrowth L0 a1) _ _ true (RV.mono (B' := w8.heap.size) rg0.rv (by omega)) (RV.mono (B' := w8.heap.size) rw0.rv (by omega)) (Nat.le_refl _) (hwl) (eqI_self _)).mono ?_))
    rintro _ w9 ⟨rfl, b9⟩
    have s9 := b9.size
    replace rr0 := rr0.below b9 (by omega)
    replace rw0 := rw0.next b9 (by omega)
    replace rg0 := rg0.next b9 (by omega)
    replace bb := bstep bb b9
    have z10 := rg0
    (go_wp2_with fail; (with_reducible refine (markIntS_any _ ((tgrowth L0 a1)) _ _ 1 _ rg0 (by omega) (by omega) (hwl)).mono ?_))
    rintro _ w10 ⟨rfl, ng0, g10⟩
    have s10 := g10.size
    have c10 := below_row z10 g10 (by omega)
    replace rr0 := rr0.below c10 (by omega)
    replace rw0 := rw0.grown g10 (fun k hk => by have p1 := (World.ownsRow.lt z10.1 k hk).1; have p2 := z10.2 k hk; omega)
    replace rg0 := ng0
    replace bb := bb.trans (c10.mono (by omega))
    clear z10 c10 g10
    (go_wp2_with fail; (with_reducible refine (heldIntS_any _ _ _ 1 _ (RV.mono (B' := w10.heap.size) rg0.rv (by omega)) (by omega) (by omega) (hwl)).mono ?_); rintro _ _ ⟨rfl, rfl⟩)
    (go_wp2_with fail; (with_reducible refine (toIntS_any _ L0 _ _ (RV.mono (B' := w10.heap.size) rr0 (by omega)) (Nat.le_refl _) hs0).mono ?_))
    rintro _ w11 ⟨vz0, rfl, rz0, b11⟩
    have s11 := b11.size
    replace rr0 := rr0.below b11 (by omega)
    replace rw0 := rw0.next b11 (by omega)
    replace rg0 := rg0.next b11 (by omega)
    replace bb := bstep bb b11
    (go_wp2_with fail; (with_reducible refine (iTreeGrowth_any _ L0 a1 _ (RV.mono (B' := w11.heap.size) rz0.rv (by omega)) hs0).mono ?_))
    rintro _ w12 ⟨vh0, rfl, rh0, b12⟩
    have s12 := b12.size
    replace rr0 := rr0.below b12 (by omega)
    replace rw0 := rw0.next b12 (by omega)
    replace rg0 := rg0.next b12 (by omega)
    replace rz0 := rz0.next b12 (by omega)
    replace bb := bstep bb b12
    (go_wp2_with fail; (with_reducible refine (eqIntS_any _ _ (tgrowth L0 a1) (tgrowth L0 a1) _ _ true (RV.mono (B' := w12.heap.size) rh0.rv (by omega)) (RV.mono (B' := w12.heap.size) rw0.rv (by omega)) (Nat.le_refl _) (hwl) (eqI_self _)).mono ?_))
    rintro _ w13 ⟨rfl, b13⟩
    have s13 := b13.size
    replace rr0 := rr0.below b13 (by omega)
    replace rw0 := rw0.next b13 (by omega)
    replace rg0 := rg0.next b13 (by omega)
    replace rz0 := rz0.next b13 (by omega)
    replace rh0 := rh0.next b13 (by omega)
    replace bb := bstep bb b13
    (go_wp2_with fail; (with_reducible refine (heldIntS_any _ _ _ 1 _ (RV.mono (B' := w13.heap.size) rg0.rv (by omega)) (by omega) (by omega) (hwl)).mono ?_); rintro _ _ ⟨rfl, rfl⟩)
    go_wp2_with fail
    go_ret
    exact ⟨rfl, bb⟩
set_option maxHeartbeats 8000000 in
set_option maxRecDepth 100000 in
theorem walk_FnGrowthLength (v0 : Value) (L0 : List Int) (w : World) (r0 : RV w w.heap.size v0 (L0.map (Value.int .u8))) (b0 : ∀ n ∈ L0, (Lit.int .u8 n).wf = true) :
    Calls Try.prog 5 #[v0] w fun e w' => e = .returned (.bool true) ∧ Below w.heap.size w w' := by
  have rr0 := r0
  obtain ⟨A0, cap0, rfl, hl0, hm0, hc0⟩ := r0
  rw [List.length_map] at rr0 hl0 ⊢
  clear hc0
  unfold maxLen at hm0
  rcases small_case L0.length with hb | hb0
  · go_enter Try.func5, Try.ntmps5
    go_wp2_with fail
    go_ret
    exact ⟨rfl, Below.refl _ _⟩
  · go_enter Try.func5, Try.ntmps5
    (go_wp2_with fail; (with_reducible refine (DrawTreeGrowth_any _ L0 _ rr0 b0).mono ?_))
    rintro _ w1 ⟨v, D, i, rfl, hD, hlf, rD, bb⟩
    have s1 := bb.size
    obtain ⟨AD, cD, rfl, hDl, hDm, hDc⟩ := row_intsC rD
    have rv := RV.mono (B' := w1.heap.size) rD.rv (by omega)
    have hrl0 := tgrowth_len D i
    have hrl : (tgrowth D i).length ≤ 33554432 := by omega
    clear hDc
    (go_wp2_with fail; (with_reducible refine (iTreeGrowth_any _ D i _ rv (by omega)).mono ?_))
    rintro _ w2 ⟨v2, rfl, r2, b2⟩
    have s2 := b2.size
    replace rv := RV.mono (B' := w2.heap.size) (rv.below b2 (by omega)) (by omega)
    (go_wp2_with fail; (with_reducible refine (sTreeGrowth_any _ D i _ rv (by omega)).mono ?_))
    rintro _ w3 ⟨v3, rfl, r3, b3⟩
    have s3 := b3.size
    replace r2 := r2.next b3 (by omega)
    replace rv := RV.mono (B' := w3.heap.size) (rv.below b3 (by omega)) (by omega)
    (go_wp2_with fail; (with_reducible refine (sameInts_any _ _ (tgrowth D i) (tgrowth D i) _ _ true (RV.mono (B' := w3.heap.size) r2.rv (by omega)) (RV.mono (B' := w3.heap.size) r3.rv (by omega)) (Nat.le_refl _) hrl (eqI_self _)).mono ?_))
    rintro _ w4 ⟨rfl, b4⟩
    have s4 := b4.size
    replace r2 := r2.next b4 (by omega)
    replace r3 := r3.next b4 (by omega)
    replace rv := RV.mono (B' := w4.heap.size) (rv.below b4 (by omega)) (by omega)
    have bb4 := bstep (bstep (bstep bb b2) b3) b4
    clear bb b2 b3 b4
    obtain ⟨A2, c2, hv2, hl2, hm2, hc2⟩ := row_intsC r2
    subst hv2
    have h9 : ((tgrowth D i).length : Int) ≤ 9 := by omega
    clear hc2
    go_wp2_with fail
    go_ret
    exact ⟨retB (by simp), bb4⟩
set_option maxHeartbeats 8000000 in
set_option maxRecDepth 100000 in
theorem walk_FnGrowthPeaks (v0 : Value) (L0 : List Int) (w : World) (r0 : RV w w.heap.size v0 (L0.map (Value.int .u8))) (b0 : ∀ n ∈ L0, (Lit.int .u8 n).wf = true) :
    Calls Try.prog 6 #[v0] w fun e w' => e = .returned (.bool true) ∧ Below w.heap.size w w' := by
  have rr0 := r0
  obtain ⟨A0, cap0, rfl, hl0, hm0, hc0⟩ := r0
  rw [List.length_map] at rr0 hl0 ⊢
  clear hc0
  unfold maxLen at hm0
  rcases small_case L0.length with hb | hb0
  · go_enter Try.func6, Try.ntmps6
    go_wp2_with fail
    go_ret
    exact ⟨rfl, Below.refl _ _⟩
  · go_enter Try.func6, Try.ntmps6
    (go_wp2_with fail; (with_reducible refine (DrawTreeGrowth_any _ L0 _ rr0 b0).mono ?_))
    rintro _ w1 ⟨v, D, i, rfl, hD, hlf, rD, bb⟩
    have s1 := bb.size
    obtain ⟨AD, cD, rfl, hDl, hDm, hDc⟩ := row_intsC rD
    have rv := RV.mono (B' := w1.heap.size) rD.rv (by omega)
    have hrl0 := tgrowth_len D i
    have hrl : (tgrowth D i).length ≤ 33554432 := by omega
    clear hDc
    (go_wp2_with fail; (with_reducible refine (iTreeGrowth_any _ D i _ rv (by omega)).mono ?_))
    rintro _ w2 ⟨v2, rfl, r2, b2⟩
    have s2 := b2.size
    replace rv := RV.mono (B' := w2.heap.size) (rv.below b2 (by omega)) (by omega)
    (go_wp2_with fail; (with_reducible refine (sTreeGrowth_any _ D i _ rv (by omega)).mono ?_))
    rintro _ w3 ⟨v3, rfl, r3, b3⟩
    have s3 := b3.size
    replace r2 := r2.next b3 (by omega)
    replace rv := RV.mono (B' := w3.heap.size) (rv.below b3 (by omega)) (by omega)
    (go_wp2_with fail; (with_reducible refine (sameInts_any _ _ (tgrowth D i) (tgrowth D i) _ _ true (RV.mono (B' := w3.heap.size) r2.rv (by omega)) (RV.mono (B' := w3.heap.size) r3.rv (by omega)) (Nat.le_refl _) hrl (eqI_self _)).mono ?_))
    rintro _ w4 ⟨rfl, b4⟩
    have s4 := b4.size
    replace r2 := r2.next b4 (by omega)
    replace r3 := r3.next b4 (by omega)
    replace rv := RV.mono (B' := w4.heap.size) (rv.below b4 (by omega)) (by omega)
    have bb4 := bstep (bstep (bstep bb b2) b3) b4
    clear bb b2 b3 b4
    (go_wp2_with fail; (with_reducible refine (sTreeDigest_any _ D _ rv (by omega)).mono ?_))
    rintro _ w5 ⟨rfl, b5⟩
    have s5 := b5.size
    replace r2 := r2.next b5 (by omega)
    replace r3 := r3.next b5 (by omega)
    replace rv := RV.mono (B' := w5.heap.size) (rv.below b5 (by omega)) (by omega)
    replace bb4 := bstep bb4 b5
    clear b5
    cases hb : leavesB D
    · have hneg := tdigest_no hb
      rw [hneg]
      (go_wp2_with fail; (with_reducible refine (sameInts_any _ _ (tgrowth D i) (tgrowth D i) _ _ true (RV.mono (B' := w5.heap.size) r2.rv (by omega)) (RV.mono (B' := w5.heap.size) r3.rv (by omega)) (Nat.le_refl _) hrl (eqI_self _)).mono ?_))
      rintro _ w6 ⟨rfl, b6⟩
      go_wp2_with fail
      go_ret
      exact ⟨rfl, bstep bb4 b6⟩
    · obtain ⟨d16, dd⟩ := leavesB_len hb
      have htd := tdigest_bd2 hb
      obtain ⟨p0, p1⟩ := digB_true.1 htd
      by_cases hi0 : i < 0
      · have hf1 : decide (i < 0) = true := decide_eq_true hi0
        obtain ⟨t, ht⟩ : ∃ t, tdigest D = t := ⟨_, rfl⟩
        rw [ht] at p0 p1 ⊢
        have hf0 : decide (t < 0) = false := decide_eq_false (by omega)
        clear hb ht htd
        (go_wp2_with fail; (with_reducible refine (sameInts_any _ _ (tgrowth D i) (tgrowth D i) _ _ true (RV.mono (B' := w5.heap.size) r2.rv (by omega)) (RV.mono (B' := w5.heap.size) r3.rv (by omega)) (Nat.le_refl _) hrl (eqI_self _)).mono ?_))
        rintro _ w6 ⟨rfl, b6⟩
        go_wp2_with fail
        go_ret
        exact ⟨rfl, bstep bb4 b6⟩
      · have hf1 : decide (i < 0) = false := decide_eq_false hi0
        by_cases hi1 : (D.length : Int) < i
        · have hf2 : decide ((D.length : Int) < i) = true := decide_eq_true hi1
          obtain ⟨t, ht⟩ : ∃ t, tdigest D = t := ⟨_, rfl⟩
          rw [ht] at p0 p1 ⊢
          have hf0 : decide (t < 0) = false := decide_eq_false (by omega)
          clear hb ht htd
          (go_wp2_with fail; (with_reducible refine (sameInts_any _ _ (tgrowth D i) (tgrowth D i) _ _ true (RV.mono (B' := w5.heap.size) r2.rv (by omega)) (RV.mono (B' := w5.heap.size) r3.rv (by omega)) (Nat.le_refl _) hrl (eqI_self _)).mono ?_))
          rintro _ w6 ⟨rfl, b6⟩
          go_wp2_with fail
          go_ret
          exact ⟨rfl, bstep bb4 b6⟩
        · have hf2 : decide ((D.length : Int) < i) = false := decide_eq_false hi1
          obtain ⟨m, rfl⟩ : ∃ m : Nat, i = (m : Int) := ⟨i.toNat, by omega⟩
          have hmn : m ≤ D.length := by omega
          obtain ⟨t, ht⟩ : ∃ t, tdigest D = t := ⟨_, rfl⟩
          have HT := hid' ht
          rw [ht] at p0 p1 ⊢
          have hf0 : decide (t < 0) = false := decide_eq_false (by omega)
          have hmc : (m : Int) ≤ (cD : Int) := by omega
          have hml : (m : Int) ≤ (D.length : Int) := by omega
          have rm := rv_take (k := m) rv (by rw [List.length_map]; omega)
          rw [← List.map_take] at rm
          have htl : (D.take m).length ≤ 1048576 := by rw [List.length_take]; omega
          have HB := hid' hb
          clear ht htd hi1 hi0 hb
          obtain ⟨q1, q2⟩ := growth_begins HB.out hmn
          obtain ⟨q3, q4⟩ := growth_all HB.out
          have hpl := tpeaks_len (D.take m)
          have hpl2 := tpeaks_len D
          obtain ⟨A2, c2, hv2, hl2, hm2, hc2⟩ := row_intsC r2
          subst hv2
          have HQ1 := hid' q1
          have HQ3 := hid' q3
          have HQ4 := hid' q4
          clear q1 q3 q4 hc2
          (go_wp2_with fail; (with_reducible refine (iTreePeaks_any _ (D.take m) _ rm htl).mono ?_))
          rintro _ w6 ⟨vo, rfl, ro, b6⟩
          have s6 := b6.size
          replace r2 := r2.next b6 (by omega)
          replace rv := RV.mono (B' := w6.heap.size) (rv.below b6 (by omega)) (by omega)
          replace bb4 := bstep bb4 b6
          obtain ⟨Ao, co, hvo, hlo, hmo, hco⟩ := row_intsC ro
          subst hvo
          have hq2 : ((tpeaks (D.take m)).length : Int) ≤ ((tgrowth D (m : Int)).length : Int) := by omega
          have hq2c : ((tpeaks (D.take m)).length : Int) ≤ (c2 : Int) := by omega
          have hq2d : decide (((tpeaks (D.take m)).length : Int) ≤ ((tgrowth D (m : Int)).length : Int)) = true := decide_eq_true hq2
          have rt := rv_take (k := (tpeaks (D.take m)).length) r2.rv (by rw [List.length_map]; omega)
          rw [← List.map_take, HQ1.out] at rt
          have hql : (tpeaks (D.take m)).length ≤ 33554432 := by omega
          have hql2 : (tpeaks D).length ≤ 33554432 := by omega
          clear hco
          (go_wp2_with fail; (with_reducible refine (sameInts_any _ _ (tpeaks (D.take m)) (tpeaks (D.take m)) _ _ true (RV.mono (B' := w6.heap.size) rt (by omega)) (RV.mono (B' := w6.heap.size) ro.rv (by omega)) (Nat.le_refl _) hql (eqI_self _)).mono ?_))
          rintro _ w7 ⟨rfl, b7⟩
          have s7 := b7.size
          replace rv := RV.mono (B' := w7.heap.size) (rv.below b7 (by omega)) (by omega)
          replace bb4 := bstep bb4 b7
          (go_wp2_with fail; (with_reducible refine (iTreeGrowth_any _ D (D.length : Int) _ rv (by omega)).mono ?_))
          rintro _ w8 ⟨v8, rfl, r8, b8⟩
          rw [HQ3.out] at r8
          have s8 := b8.size
          replace rv := RV.mono (B' := w8.heap.size) (rv.below b8 (by omega)) (by omega)
          replace bb4 := bstep bb4 b8
          (go_wp2_with fail; (with_reducible refine (iTreePeaks_any _ D _ rv (by omega)).mono ?_))
          rintro _ w9 ⟨v9, rfl, r9, b9⟩
          have s9 := b9.size
          replace rv := RV.mono (B' := w9.heap.size) (rv.below b9 (by omega)) (by omega)
          replace r8 := r8.next b9 (by omega)
          replace bb4 := bstep bb4 b9
          (go_wp2_with fail; (with_reducible refine (sameInts_any _ _ (tpeaks D) (tpeaks D) _ _ true (RV.mono (B' := w9.heap.size) r8.rv (by omega)) (RV.mono (B' := w9.heap.size) r9.rv (by omega)) (Nat.le_refl _) hql2 (eqI_self _)).mono ?_))
          rintro _ w10 ⟨rfl, b10⟩
          have s10 := b10.size
          replace rv := RV.mono (B' := w10.heap.size) (rv.below b10 (by omega)) (by omega)
          replace bb4 := bstep bb4 b10
          (go_wp2_with fail; (with_reducible refine (iTreeGrowth_any _ D 0 _ rv (by omega)).mono ?_))
          rintro _ w11 ⟨v11, rfl, r11, b11⟩
          rw [HQ4.out] at r11
          have s11 := b11.size
          replace rv := RV.mono (B' := w11.heap.size) (rv.below b11 (by omega)) (by omega)
          replace bb4 := bstep bb4 b11
          (go_wp2_with fail; (with_reducible refine (iTreePeaks_any _ D _ rv (by omega)).mono ?_))
          rintro _ w12 ⟨v12, rfl, r12, b12⟩
          have s12 := b12.size
          replace r11 := r11.next b12 (by omega)
          replace bb4 := bstep bb4 b12
          (go_wp2_with fail; (with_reducible refine (sameInts_any _ _ (tpeaks D) (tpeaks D) _ _ true (RV.mono (B' := w12.heap.size) r11.rv (by omega)) (RV.mono (B' := w12.heap.size) r12.rv (by omega)) (Nat.le_refl _) hql2 (eqI_self _)).mono ?_))
          rintro _ w13 ⟨rfl, b13⟩
          go_wp2_with fail
          go_ret
          exact ⟨rfl, bstep bb4 b13⟩
end Go.Proofs.Ytpbdehncmincaaa
