/- The walks of laws on drawn checks of growth. -/
import Derived.Test.YtpbdehncmincaaaDrawH
namespace Go.Proofs.Ytpbdehncmincaaa
set_option linter.unusedVariables false
open Go.RowKit
theorem gcheck_bd {m old n d : Int} {l : List Int} (h : gcheck m old n d l = true) : (0 ≤ old ∧ old ≤ 990) ∧ (0 ≤ d ∧ d ≤ 990) := by
  obtain ⟨M, N, rfl, rfl, h1, h2, h3, h4, h5, h6⟩ := gcheck_parts h
  constructor
  · rw [← h5]; exact digB_true.1 (foldD_dig _ _ (digB_true.2 ⟨by omega, by omega⟩))
  · rw [← h6]; unfold gval; exact digB_true.1 (foldD_dig _ _ (digB_true.2 ⟨by omega, by omega⟩))
set_option maxHeartbeats 8000000 in
set_option maxRecDepth 100000 in
theorem walk_FnGrowthOther (v0 : Value) (L0 : List Int) (v1 : Value) (L1 : List Int) (w : World) (r0 : RV w w.heap.size v0 (L0.map (Value.int .u8))) (b0 : ∀ n ∈ L0, (Lit.int .u8 n).wf = true) (r1 : RV w w.heap.size v1 (L1.map (Value.int .u8))) (_b1 : ∀ n ∈ L1, (Lit.int .u8 n).wf = true) :
    Calls Try.prog 11 #[v0, v1] w fun e w' => e = .returned (.bool true) ∧ Below w.heap.size w w' := by
  have rr0 := r0
  obtain ⟨A0, cap0, rfl, hl0, hm0, hc0⟩ := r0
  obtain ⟨A1, cap1, rfl, hl1, hm1, hc1⟩ := r1
  rw [List.length_map] at rr0 hl0 hl1 ⊢
  rw [List.length_map]
  clear hc0 hc1
  unfold maxLen at hm0 hm1
  obtain ⟨M, hM⟩ : ∃ M, M = L1.length := ⟨_, rfl⟩
  rw [← hM] at hl1 ⊢
  clear hM
  rcases small_cases L0.length M with hb | hb | ⟨hb0, hb1⟩
  · go_enter Try.func11, Try.ntmps11
    go_wp2_with fail
    go_ret
    exact ⟨rfl, Below.refl _ _⟩
  · go_enter Try.func11, Try.ntmps11
    go_wp2_with fail
    go_ret
    exact ⟨rfl, Below.refl _ _⟩
  · go_enter Try.func11, Try.ntmps11
    (go_wp2_with fail; (with_reducible refine (DrawTreeGrowthCheck_any _ L0 _ rr0 b0).mono ?_))
    rintro _ w1 ⟨m, old, n, d, v, P, rfl, hP, rP, bb⟩
    have s1 := bb.size
    obtain ⟨AP, cP, rfl, hPl, hPm, hPc⟩ := row_intsC rP
    have rv := RV.mono (B' := w1.heap.size) rP.rv (by omega)
    obtain ⟨ok, hok⟩ : ∃ ok, gcheck m old n d P = ok := ⟨_, rfl⟩
    have HOK := hid' hok
    clear hok hPc
    (go_wp2_with fail; (with_reducible refine (iGrowthCheck_b m old n d _ P _ ok rv (by omega) HOK.out).mono ?_))
    rintro _ w2 ⟨rfl, b2⟩
    have s2 := b2.size
    replace rv := RV.mono (B' := w2.heap.size) (rv.below b2 (by omega)) (by omega)
    replace bb := bstep bb b2
    clear b2
    (go_wp2_with fail; (with_reducible refine (sGrowthCheck_b m old n d _ P _ ok rv (by omega) HOK.out).mono ?_))
    rintro _ w3 ⟨rfl, b3⟩
    have s3 := b3.size
    replace rv := RV.mono (B' := w3.heap.size) (rv.below b3 (by omega)) (by omega)
    replace bb := bstep bb b3
    clear b3
    cases ok
    · (go_wp2_with fail; (with_reducible refine (sGrowthCheck_b m old n d _ P _ false rv (by omega) HOK.out).mono ?_))
      rintro _ w4 ⟨rfl, b4⟩
      go_wp2_with fail
      go_ret
      exact ⟨rfl, bstep bb b4⟩
    · obtain ⟨h9, hone⟩ := gcheck_nine HOK.out
      have hdg := gcheck_digs HOK.out
      obtain ⟨⟨o0, o1⟩, ⟨d0, d1⟩⟩ := gcheck_bd HOK.out
      have z1 := other_ne old (M : Int) ⟨o0, o1⟩ (by omega)
      have z2 := other_ne d (M : Int) ⟨d0, d1⟩ (by omega)
      have N1 := hid' (gcheck_old HOK.out z1)
      have N2 := hid' (gcheck_other HOK.out z2)
      obtain ⟨x, hx⟩ : ∃ x, other old (M : Int) = x := ⟨_, rfl⟩
      obtain ⟨y, hy⟩ : ∃ y, other d (M : Int) = y := ⟨_, rfl⟩
      rw [hx] at z1 N1
      rw [hy] at z2 N2
      have HX := hid' hx
      have HY := hid' hy
      have e1 : (x == old) = false := beq_eq_false_iff_ne.2 z1
      have e2 : (y == d) = false := beq_eq_false_iff_ne.2 z2
      clear hx hy z1 z2 hone hdg
      (go_wp2_with fail; (with_reducible refine (other_anyC old (M : Int) _ o0 o1 (by omega) (by omega)).mono ?_); rintro _ _ ⟨rfl, rfl⟩)
      rw [HX.out]
      (go_wp2_with fail; (with_reducible refine (other_anyC d (M : Int) _ d0 d1 (by omega) (by omega)).mono ?_); rintro _ _ ⟨rfl, rfl⟩)
      rw [HY.out]
      (go_wp2_with fail; (with_reducible refine (iGrowthCheck_b m x n d _ P _ false rv (by omega) N1.out).mono ?_))
      rintro _ w5 ⟨rfl, b5⟩
      have s5 := b5.size
      replace rv := RV.mono (B' := w5.heap.size) (rv.below b5 (by omega)) (by omega)
      replace bb := bstep bb b5
      clear b5
      (go_wp2_with fail; (with_reducible refine (iGrowthCheck_b m old n y _ P _ false rv (by omega) N2.out).mono ?_))
      rintro _ w6 ⟨rfl, b6⟩
      go_wp2_with fail
      go_ret
      exact ⟨rfl, bstep bb b6⟩
set_option maxHeartbeats 8000000 in
set_option maxRecDepth 100000 in
theorem walk_FnGrowthChange (v0 : Value) (L0 : List Int) (v1 : Value) (L1 : List Int) (w : World) (r0 : RV w w.heap.size v0 (L0.map (Value.int .u8))) (b0 : ∀ n ∈ L0, (Lit.int .u8 n).wf = true) (r1 : RV w w.heap.size v1 (L1.map (Value.int .u8))) (_b1 : ∀ n ∈ L1, (Lit.int .u8 n).wf = true) :
    Calls Try.prog 10 #[v0, v1] w fun e w' => e = .returned (.bool true) ∧ Below w.heap.size w w' := by
  have rr0 := r0
  obtain ⟨A0, cap0, rfl, hl0, hm0, hc0⟩ := r0
  obtain ⟨A1, cap1, rfl, hl1, hm1, hc1⟩ := r1
  rw [List.length_map] at rr0 hl0 hl1 ⊢
  rw [List.length_map]
  clear hc0 hc1
  unfold maxLen at hm0 hm1
  obtain ⟨M, hM⟩ : ∃ M, M = L1.length := ⟨_, rfl⟩
  rw [← hM] at hl1 ⊢
  clear hM
  rcases small_cases L0.length M with hb | hb | ⟨hb0, hb1⟩
  · go_enter Try.func10, Try.ntmps10
    go_wp2_with fail
    go_ret
    exact ⟨rfl, Below.refl _ _⟩
  · go_enter Try.func10, Try.ntmps10
    go_wp2_with fail
    go_ret
    exact ⟨rfl, Below.refl _ _⟩
  · go_enter Try.func10, Try.ntmps10
    (go_wp2_with fail; (with_reducible refine (DrawTreeGrowthCheck_any _ L0 _ rr0 b0).mono ?_))
    rintro _ w1 ⟨m, old, n, d, v, P, rfl, hP, rP, bb⟩
    have s1 := bb.size
    obtain ⟨AP, cP, rfl, hPl, hPm, hPc⟩ := row_intsC rP
    have rv := RV.mono (B' := w1.heap.size) rP.rv (by omega)
    obtain ⟨ok, hok⟩ : ∃ ok, gcheck m old n d P = ok := ⟨_, rfl⟩
    have HOK := hid' hok
    clear hok hPc
    (go_wp2_with fail; (with_reducible refine (iGrowthCheck_b m old n d _ P _ ok rv (by omega) HOK.out).mono ?_))
    rintro _ w2 ⟨rfl, b2⟩
    have s2 := b2.size
    replace rv := RV.mono (B' := w2.heap.size) (rv.below b2 (by omega)) (by omega)
    replace bb := bstep bb b2
    clear b2
    (go_wp2_with fail; (with_reducible refine (sGrowthCheck_b m old n d _ P _ ok rv (by omega) HOK.out).mono ?_))
    rintro _ w3 ⟨rfl, b3⟩
    have s3 := b3.size
    replace rv := RV.mono (B' := w3.heap.size) (rv.below b3 (by omega)) (by omega)
    replace bb := bstep bb b3
    clear b3
    cases ok
    · (go_wp2_with fail; (with_reducible refine (sGrowthCheck_b m old n d _ P _ false rv (by omega) HOK.out).mono ?_))
      rintro _ w4 ⟨rfl, b4⟩
      go_wp2_with fail
      go_ret
      exact ⟨rfl, bstep bb b4⟩
    · obtain ⟨h9, hone⟩ := gcheck_nine HOK.out
      have hdg := gcheck_digs HOK.out
      have T1 := hid' (gcheck_longer HOK.out (l' := P ++ [1]) (by simp))
      obtain ⟨j0, ji, jz0, jz1, jz2⟩ := info_parts infoInt
      have rv' : RV (w3.alloc (.cells #[] 3)) w3.heap.size (.slice AP P.length cP) (P.map (Value.int .i64)) := rv.below (bnew w3 _) (Nat.le_refl _)
      go_wp2_with (at_builtin; first | (refine wpList_append_rv _ rfl _ _ 22 rfl w3.heap.size 3 j0 (.int .i64 0) 8 Try.underlying22 ji jz0 jz1 jz2 rfl _ _ rfl (own_empty (Nat.le_refl w3.heap.size)) _ rfl _ _ rv' (one_ints _) (by rw [List.length_map]; simp; omega) (by decide) (by simp) ?_; intro v5 w5 o5 b5; simp only [List.nil_append] at o5) | (refine wpList_push _ rfl _ _ 22 rfl w3.heap.size 3 j0 (.int .i64 0) 8 Try.underlying22 ji jz0 jz1 jz2 rfl _ _ rfl o5 _ rfl rfl (by rw [List.length_map]; omega) (by decide) (by have := b5.size; simp at this; omega) ?_; intro v6 w6 o6 b6))
      have c6 : Below w3.heap.size w3 w6 := (((Below.refl _ _).alloc (Nat.le_refl _) _).trans b5).trans b6
      have o6' : OW w6 w3.heap.size 3 v6 ((P ++ [1]).map (Value.int .i64)) := by rw [List.map_append]; exact o6
      have s6 := c6.size
      (with_reducible refine (iGrowthCheck_b m old n d v6 (P ++ [1]) _ false o6'.rv (by simp; omega) T1.out).mono ?_)
      rintro _ w2 ⟨rfl, b7⟩
      have s7 := b7.size
      replace bb := bstep (bstep bb c6) b7
      replace rv := RV.mono (B' := w2.heap.size) ((rv.below c6 (Nat.le_refl _)).below b7 (by omega)) (by omega)
      clear rv' o5 b5 o6 b6 c6 o6' b7 T1
      by_cases h0 : P.length = 0
      · have e0 : ((P.length : Int) == 0) = true := beq_iff_eq.2 (by omega)
        have hn1 := hone h0
        have e1 : (n == 0) = true := beq_iff_eq.2 hn1
        clear h0 hn1 hone
        go_wp2_with fail
        go_ret
        exact ⟨rfl, bb⟩
      · have e0 : ((P.length : Int) == 0) = false := beq_eq_false_iff_ne.2 (by omega)
        obtain ⟨k, hkn, k1, k2⟩ := idx_of M P.length (by omega)
        obtain ⟨A', c', hv', _, _, hPc⟩ := rv_intsC rv
        simp only [Value.slice.injEq] at hv'
        obtain ⟨rfl, _, rfl⟩ := hv'
        obtain ⟨b, off, rfl, hbB, hcell⟩ := hPc (by omega)
        obtain ⟨c, hc⟩ : ∃ c, P[k]? = some c := ⟨P[k], List.getElem?_eq_getElem hkn⟩
        have hlc := lf_get hc
        have hcd := hcell k c hc
        have hc9 := digB_true.1 (digs_get hc hdg)
        have hzd := other_dig c (L0.length : Int) hc9.1
        have hzn := other_ne c (L0.length : Int) hc9 (by omega)
        have hno := gcheck_changed HOK.out hkn hzd (by rw [hlc]; exact hzn)
        obtain ⟨z, hz⟩ : ∃ z, other c (L0.length : Int) = z := ⟨_, rfl⟩
        rw [hz] at hzd hzn hno
        have HZ := hid' hz
        have HX := hid' hc
        have HNO := hid' hno
        have zd1 : (z == c) = false := beq_eq_false_iff_ne.2 hzn
        have kc1 : (0 : Int) ≤ (k : Int) := by omega
        have kc2 : (k : Int) < (P.length : Int) := by omega
        have rv' : RV (w2.alloc (.cells #[] 3)) w2.heap.size (.slice (some ⟨b, off, none⟩) P.length cP) (P.map (Value.int .i64)) := rv.below (bnew w2 _) (Nat.le_refl _)
        clear h0 hone hz hc hcell hPc hzn rP hlc hno
        go_wp2_with (at_builtin; refine wpList_append_rv _ rfl _ _ 22 rfl w2.heap.size 3 j0 (.int .i64 0) 8 Try.underlying22 ji jz0 jz1 jz2 rfl _ _ rfl (own_empty (Nat.le_refl w2.heap.size)) _ rfl _ _ rv' (one_ints _) (by rw [List.length_map]; simp; omega) (by decide) (by simp) ?_; intro v4 w4 o4 b4; simp only [List.nil_append] at o4; obtain ⟨g, cg, rfl, hcg, l1, l2, lb, l3⟩ := own_atC (con := Value.int .i64) (D := P) o4 HX.out; obtain ⟨l4, l5⟩ := l3 z; have L4 := hid' l4; have L5 := hid' l5; clear l3 l4 l5 o4)
        (with_reducible refine (other_anyC c (L0.length : Int) _ hc9.1 hc9.2 (by omega) (by omega)).mono ?_)
        rintro _ _ ⟨rfl, rfl⟩
        rw [HZ.out]
        have c4 : Below w2.heap.size w2 (w4.setCell ⟨g, k, none⟩ (.int .i64 z)) := (((Below.refl _ _).alloc (Nat.le_refl _) _).trans b4).trans L5.out
        obtain ⟨g', cg', hvg, _, n1, _, _, _⟩ := own_atC (con := Value.int .i64) (D := P.set k z) L4.out (k := k) (x := z) (by rw [List.getElem?_set_self hkn])
        simp only [Value.slice.injEq, Option.some.injEq, Addr.mk.injEq] at hvg
        obtain ⟨⟨rfl, _, _⟩, hq, rfl⟩ := hvg
        clear hq
        have n2 : (w4.setCell ⟨g, k, none⟩ (.int .i64 z)).cell? ⟨b, off + k, none⟩ = some (.int .i64 c) := (c4.cell (p := ⟨b, off + k, none⟩) hbB).trans hcd
        have hgs : g < (w4.setCell ⟨g, k, none⟩ (.int .i64 z)).heap.size := (World.ownsRow.lt L4.out g (by rfl)).2
        have S0 : (fun W : World => W.cell? ⟨g, k, none⟩ = some (.int .i64 z) ∧ W.cell? ⟨b, off + k, none⟩ = some (.int .i64 c) ∧ LS (w4.setCell ⟨g, k, none⟩ (.int .i64 z)) (.slice (some ⟨g, 0, none⟩) P.length cg) ((P.set k z).map (Value.int .i64)) ⟨g, k, none⟩ ⟨b, off + k, none⟩ W) (w4.setCell ⟨g, k, none⟩ (.int .i64 z)).drew := ⟨n1, n2, L4.out.rv, (Below.refl _ _).drew, hgs, Nat.lt_of_lt_of_le hbB c4.size⟩
        have I := hid' (fun (W : World) (r : W.cell? ⟨g, k, none⟩ = some (.int .i64 z) ∧ W.cell? ⟨b, off + k, none⟩ = some (.int .i64 c) ∧ LS (w4.setCell ⟨g, k, none⟩ (.int .i64 z)) (.slice (some ⟨g, 0, none⟩) P.length cg) ((P.set k z).map (Value.int .i64)) ⟨g, k, none⟩ ⟨b, off + k, none⟩ W) => iGrowthCheck_b m old n d (.slice (some ⟨g, 0, none⟩) P.length cg) (P.set k z) W false (ls_rv r) (by rw [List.length_set]; omega) HNO.out)
        have bb4 := bstep bb c4
        clear n1 n2
        go_wp2_with fail
        go_region_held3 (fun W => W.cell? ⟨g, k, none⟩ = some (.int .i64 z) ∧ W.cell? ⟨b, off + k, none⟩ = some (.int .i64 c) ∧ LS (w4.setCell ⟨g, k, none⟩ (.int .i64 z)) (.slice (some ⟨g, 0, none⟩) P.length cg) ((P.set k z).map (Value.int .i64)) ⟨g, k, none⟩ ⟨b, off + k, none⟩ W)
          (first | (exact ls_step (by assumption) b8) | (exact S0) | assumption)
          ((first | (go_at_call 19; (with_reducible refine (I.out _ (by assumption)).mono ?_); rintro _ w8 ⟨rfl, b8⟩)))
        go_wp2_with fail
        go_ret
        exact ⟨rfl, bstep bb4 (ls_bel (by assumption))⟩
end Go.Proofs.Ytpbdehncmincaaa
