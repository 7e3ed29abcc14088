/- The walks of further laws on bits over drawn bytes. -/
import Derived.Test.YtjmgkcmmhkpmhaaLawB2
namespace Go.Proofs.Ytjmgkcmmhkpmhaa
set_option linter.unusedVariables false
open Go.RowKit

theorem runs_long {L : List Bool} (h : 16 < L.length) : runs L = [] := if_neg (by omega)
theorem runs_short {L : List Bool} (h : 0 < (runs L).length) : L.length ≤ 16 ∧ 0 < L.length := by
  rcases Nat.lt_or_ge 16 L.length with h1 | h1
  · rw [runs_long h1] at h; cases h
  · refine ⟨h1, ?_⟩
    cases L with
    | nil => rw [runs_nil] at h; cases h
    | cons a l => simp
theorem at0 {w : World} {b off : Nat} {α : Type} {l : List α} {f : α → Value} (h : ∀ i x, l[i]? = some x → w.cell? ⟨b, off + i, none⟩ = some (f x)) (x : α) (hx : l[0]? = some x) : w.cell? ⟨b, off, none⟩ = some (f x) := h 0 x hx
theorem sum_bd {R : List Int} (h : ∀ n ∈ R, 0 ≤ n ∧ n ≤ 16) : ∀ k, k ≤ R.length → 0 ≤ sumK R k ∧ sumK R k ≤ 16 * k ∧ 0 ≤ oddK R k ∧ oddK R k ≤ 16 * k
  | 0, _ => ⟨Int.le_refl _, Int.le_refl _, Int.le_refl _, Int.le_refl _⟩
  | k + 1, hk => by
    obtain ⟨a, b, c, d⟩ := sum_bd h k (by omega)
    have hg : R.getD k 0 = R[k] := by rw [List.getD_eq_getElem?_getD, List.getElem?_eq_getElem (by omega)]; rfl
    obtain ⟨e, f⟩ := h R[k] (List.getElem_mem _)
    have hs : sumK R (k + 1) = sumK R k + R[k] := by rw [← hg]; rfl
    have ho : oddK R (k + 1) = oddK R k + R[k] ∨ oddK R (k + 1) = oddK R k := by
      show (if bitK k = true then oddK R k + R.getD k 0 else oddK R k) = _ ∨ (if bitK k = true then oddK R k + R.getD k 0 else oddK R k) = _
      rw [hg]; split
      · exact .inl rfl
      · exact .inr rfl
    rcases ho with ho | ho <;> refine ⟨?_, ?_, ?_, ?_⟩ <;> omega
theorem bitK_no {k : Nat} (h : bitK k = false) : k % 2 ≠ 1 := by unfold bitK at h; simp at h; omega
theorem bitK_yes {k : Nat} (h : bitK k = true) : k % 2 = 1 := by unfold bitK at h; simp at h; omega
theorem both_step {A B : List Bool} {k : Nat} {x y : Bool} (hx : A[k]? = some x) (hy : B[k]? = some y) : bothN A B (k + 1) = bothN A B k + if x = true ∧ y = true then 1 else 0 := by
  have e1 : A.getD k false = x := by rw [List.getD_eq_getElem?_getD, hx]; rfl
  have e2 : B.getD k false = y := by rw [List.getD_eq_getElem?_getD, hy]; rfl
  show (if (A.getD k false && B.getD k false) = true then bothN A B k + 1 else bothN A B k) = _
  rw [e1, e2]
  cases x <;> cases y <;> simp
theorem wants_len3 (A B : List Bool) : (wants A B).length ≤ 33554432 := by
  unfold wants
  split
  · rw [List.length_map]; have := wantsN_len A B A.length; omega
  · simp
theorem getD_get {L : List Int} {k : Nat} {x : Int} (h : L[k]? = some x) : L.getD k 0 = x := by rw [List.getD_eq_getElem?_getD, h]; rfl
set_option maxHeartbeats 4000000 in
set_option maxRecDepth 100000 in
theorem walk_FnRunsPositive (v0 : Value) (L0 : List Int) (w : World) (r0 : RV w w.heap.size v0 (L0.map (Value.int .u8))) (b0 : ∀ n ∈ L0, (Lit.int .u8 n).wf = true) :
    Calls Try.prog 9 #[v0] w fun e w' => e = .returned (.bool true) ∧ Below w.heap.size w w' := by
  have rr0 := r0
  obtain ⟨A0, cap0, rfl, hl0, hm0, hc0⟩ := r0
  rw [List.length_map] at rr0 hl0 ⊢
  clear hc0
  unfold maxLen at hm0
  rcases small_case L0.length with hb | hb0
  · go_enter Try.func9, Try.ntmps9
    go_wp2_with fail
    go_ret
    exact ⟨rfl, Below.refl _ _⟩
  · go_enter Try.func9, Try.ntmps9
    (go_wp2_with fail; (with_reducible refine (DrawBitsRuns_any _ L0 _ rr0 b0).mono ?_))
    rintro _ w1 ⟨v, D, rfl, hD, rD, bb⟩
    have s1 := bb.size
    obtain ⟨AD, cD, rfl, hDl, hDm, hDc⟩ := row_slice rD
    have rv := RV.mono (B' := w1.heap.size) rD.rv (by omega)
    have hrl := runs_len D
    (go_wp2_with fail; (with_reducible refine (iBitsRuns_any _ D _ rv (by omega)).mono ?_))
    rintro _ w2 ⟨v2, rfl, r2, b2⟩
    have s2 := b2.size
    replace rv := RV.mono (B' := w2.heap.size) (rv.below b2 (by omega)) (by omega)
    (go_wp2_with fail; (with_reducible refine (sBitsRuns_any _ D _ rv (by omega)).mono ?_))
    rintro _ w3 ⟨v3, rfl, r3, b3⟩
    have s3 := b3.size
    replace r2 := r2.next b3 (by omega)
    replace rv := RV.mono (B' := w3.heap.size) (rv.below b3 (by omega)) (by omega)
    (go_wp2_with fail; (with_reducible refine (sameInts_any _ _ (runs D) (runs D) _ _ true (RV.mono (B' := w3.heap.size) r2.rv (by omega)) (RV.mono (B' := w3.heap.size) r3.rv (by omega)) (Nat.le_refl _) hrl (eqI_self _)).mono ?_))
    rintro _ w4 ⟨rfl, b4⟩
    have s4 := b4.size
    replace r2 := r2.next b4 (by omega)
    replace r3 := r3.next b4 (by omega)
    replace rv := RV.mono (B' := w4.heap.size) (rv.below b4 (by omega)) (by omega)
    have bb4 := bstep (bstep (bstep bb b2) b3) b4
    clear bb b2 b3 b4
    by_cases h0 : (runs D).length = 0
    · obtain ⟨A2, c2, hv2, hl2, hm2, hc2⟩ := row_ints r2
      subst hv2
      have hz : ((((runs D).length : Nat) : Int) == 0) = true := beq_iff_eq.2 (by omega)
      clear hc2 hDc h0
      (go_wp2_with fail; (with_reducible refine (sameInts_any _ _ (runs D) (runs D) _ _ true (RV.mono (B' := w4.heap.size) r2.rv (by omega)) (RV.mono (B' := w4.heap.size) r3.rv (by omega)) (Nat.le_refl _) hrl (eqI_self _)).mono ?_))
      rintro _ w5 ⟨rfl, b5⟩
      go_wp2_with fail
      go_ret
      exact ⟨rfl, bstep bb4 b5⟩
    · obtain ⟨A2, c2, hv2, hl2, hm2, hc2⟩ := row_ints r2
      subst hv2
      have hz : ((((runs D).length : Nat) : Int) == 0) = false := beq_eq_false_iff_ne.2 (by omega)
      obtain ⟨d16, d0⟩ := runs_short (L := D) (by omega)
      obtain ⟨Ab, cb, hvb, hlb, hmb, hcb⟩ := rv
      rw [List.length_map] at hvb hlb hcb
      simp only [Value.slice.injEq] at hvb
      obtain ⟨rfl, _, rfl⟩ := hvb
      obtain ⟨g, o2, rfl, hg, hcell⟩ := hc2 (by omega)
      obtain ⟨b, off, rfl, hbl, hcellb⟩ := hcb (by omega)
      obtain ⟨t, ht⟩ : ∃ t, D[0]? = some t := ⟨D[0], List.getElem?_eq_getElem (by omega)⟩
      obtain ⟨x0, hx0⟩ : ∃ x, (runs D)[0]? = some x := ⟨(runs D)[0], List.getElem?_eq_getElem (by omega)⟩
      have HF : Hid (((x0 == 0) == t) = true) := by have := runs_first (L := D) d16 ht; rw [getD_get hx0] at this; exact this
      have hct := at0 hcellb _ (by rw [List.getElem?_map, ht]; rfl)
      have hcx0 := at0 hcell _ hx0
      have HP : Hid (∀ k, 1 ≤ k → k < (runs D).length → 1 ≤ (runs D).getD k 0) := fun k h1 h2 => runs_pos (L := D) d16 h1 h2
      have HCELL := hid' hcell
      clear hcell hc2 hDc hcb hcellb ht hx0
      go_wp2_with fail
      go_loop [6] (fun i => ∃ k : Nat, 1 ≤ k ∧ k ≤ (runs D).length ∧ i = .int .i64 k) (fun i => (runs D).length - (intOf i).toNat)
      case atStart => exact ⟨1, Nat.le_refl _, by omega, rfl⟩
      case round =>
        obtain ⟨k, h1, hk, rfl⟩ := hrel
        by_cases hlt : k < (runs D).length
        · obtain ⟨x, hx⟩ : ∃ x, (runs D)[k]? = some x := ⟨(runs D)[k], List.getElem?_eq_getElem hlt⟩
          have hpx := HP.out k h1 hlt
          rw [getD_get hx] at hpx
          have hcx := HCELL.out k x hx
          clear hx
          go_wp2_with fail
          go_round
          case rel => exact ⟨k + 1, by omega, by omega, by go_num⟩
          case measure => simp [intOf]; omega
        · go_wp2_with fail
          go_quiet (fail)
          go_wp2_with fail
          go_ret
          exact ⟨retB HF.out, below_drewN bb4 _⟩
set_option maxHeartbeats 4000000 in
set_option maxRecDepth 100000 in
theorem walk_FnRunsCount (v0 : Value) (L0 : List Int) (w : World) (r0 : RV w w.heap.size v0 (L0.map (Value.int .u8))) (b0 : ∀ n ∈ L0, (Lit.int .u8 n).wf = true) :
    Calls Try.prog 13 #[v0] w fun e w' => e = .returned (.bool true) ∧ Below w.heap.size w w' := by
  have rr0 := r0
  obtain ⟨A0, cap0, rfl, hl0, hm0, hc0⟩ := r0
  rw [List.length_map] at rr0 hl0 ⊢
  clear hc0
  unfold maxLen at hm0
  rcases small_case L0.length with hb | hb0
  · go_enter Try.func13, Try.ntmps13
    go_wp2_with fail
    go_ret
    exact ⟨rfl, Below.refl _ _⟩
  · go_enter Try.func13, Try.ntmps13
    (go_wp2_with fail; (with_reducible refine (DrawBitsRuns_any _ L0 _ rr0 b0).mono ?_))
    rintro _ w1 ⟨v, D, rfl, hD, rD, bb⟩
    have s1 := bb.size
    obtain ⟨AD, cD, rfl, hDl, hDm, hDc⟩ := row_slice rD
    have rv := RV.mono (B' := w1.heap.size) rD.rv (by omega)
    have hrl := runs_len D
    (go_wp2_with fail; (with_reducible refine (iBitsRuns_any _ D _ rv (by omega)).mono ?_))
    rintro _ w2 ⟨v2, rfl, r2, b2⟩
    have s2 := b2.size
    replace rv := RV.mono (B' := w2.heap.size) (rv.below b2 (by omega)) (by omega)
    (go_wp2_with fail; (with_reducible refine (sBitsRuns_any _ D _ rv (by omega)).mono ?_))
    rintro _ w3 ⟨v3, rfl, r3, b3⟩
    have s3 := b3.size
    replace r2 := r2.next b3 (by omega)
    replace rv := RV.mono (B' := w3.heap.size) (rv.below b3 (by omega)) (by omega)
    (go_wp2_with fail; (with_reducible refine (sameInts_any _ _ (runs D) (runs D) _ _ true (RV.mono (B' := w3.heap.size) r2.rv (by omega)) (RV.mono (B' := w3.heap.size) r3.rv (by omega)) (Nat.le_refl _) hrl (eqI_self _)).mono ?_))
    rintro _ w4 ⟨rfl, b4⟩
    have s4 := b4.size
    replace r2 := r2.next b4 (by omega)
    replace r3 := r3.next b4 (by omega)
    replace rv := RV.mono (B' := w4.heap.size) (rv.below b4 (by omega)) (by omega)
    have bb4 := bstep (bstep (bstep bb b2) b3) b4
    clear bb b2 b3 b4
    obtain ⟨A2, c2, hv2, hl2, hm2, hc2⟩ := row_ints r2
    subst hv2
    by_cases h16 : 16 < D.length
    · clear hc2 hDc
      (go_wp2_with fail; (with_reducible refine (sameInts_any _ _ (runs D) (runs D) _ _ true (RV.mono (B' := w4.heap.size) r2.rv (by omega)) (RV.mono (B' := w4.heap.size) r3.rv (by omega)) (Nat.le_refl _) hrl (eqI_self _)).mono ?_))
      rintro _ w5 ⟨rfl, b5⟩
      go_wp2_with fail
      go_ret
      exact ⟨rfl, bstep bb4 b5⟩
    · have hs := runs_sum (L := D) (by omega)
      have hbc := bcount_ok (L := D) (by omega)
      have HS0 := hid' hs.1
      have HS1 := hid' hs.2
      have hrl2 := runs_small D
      have HB := hid' (sum_bd (runs_le D))
      clear hDc hs
      go_wp2_with fail
      go_loop [6, 7, 8] (fun a b i => ∃ k : Nat, k ≤ (runs D).length ∧ i = .int .i64 k ∧ a = .int .i64 (oddK (runs D) k) ∧ b = .int .i64 (sumK (runs D) k)) (fun _ _ i => (runs D).length - (intOf i).toNat)
      case atStart => exact ⟨0, Nat.zero_le _, rfl, rfl, rfl⟩
      case round =>
        obtain ⟨k, hk, rfl, rfl, rfl⟩ := hrel
        by_cases hlt : k < (runs D).length
        · obtain ⟨g, o2, rfl, hg, hcell⟩ := hc2 (by omega)
          obtain ⟨x, hx⟩ : ∃ x, (runs D)[k]? = some x := ⟨(runs D)[k], List.getElem?_eq_getElem hlt⟩
          obtain ⟨x0, x1⟩ := runs_le D x (List.mem_of_getElem? hx)
          obtain ⟨p0, p1, p2, p3⟩ := HB.out k hk
          have hcx := hcell k x hx
          have HN : Hid (sumK (runs D) (k + 1) = sumK (runs D) k + x) := by unfold Hid; rw [← getD_get hx]; rfl
          have HO : Hid (oddK (runs D) (k + 1) = if bitK k = true then oddK (runs D) k + x else oddK (runs D) k) := by unfold Hid; rw [← getD_get hx]; rfl
          obtain ⟨s, hs⟩ : ∃ s, sumK (runs D) k = s := ⟨_, rfl⟩
          obtain ⟨t, ht⟩ : ∃ t, oddK (runs D) k = t := ⟨_, rfl⟩
          rw [hs] at p0 p1 HN
          rw [ht] at p2 p3 HO
          rw [hs, ht]
          clear hcell hx hc2 hs ht
          cases hb : bitK k
          · have hm : (((k : Nat) : Int) % 2 == 1) = false := beq_eq_false_iff_ne.2 (by have := bitK_no hb; omega)
            have hm2 : (((k : Nat) : Int).tmod 2 == 1) = false := by rw [Int.tmod_eq_emod_of_nonneg (by omega)]; exact hm
            have HO' : Hid (oddK (runs D) (k + 1) = t) := by unfold Hid; rw [HO.out, if_neg (by rw [hb]; decide)]
            clear hb
            go_wp2_with fail
            go_round
            case rel => exact ⟨k + 1, by omega, by go_num, by rw [HO'.out], by rw [HN.out]⟩
            case measure => simp [intOf]; omega
          · have hm : (((k : Nat) : Int) % 2 == 1) = true := beq_iff_eq.2 (by have := bitK_yes hb; omega)
            have hm2 : (((k : Nat) : Int).tmod 2 == 1) = true := by rw [Int.tmod_eq_emod_of_nonneg (by omega)]; exact hm
            have HO' : Hid (oddK (runs D) (k + 1) = t + x) := by unfold Hid; rw [HO.out, if_pos hb]
            clear hb
            go_wp2_with fail
            go_round
            case rel => exact ⟨k + 1, by omega, by go_num, by rw [HO'.out], by rw [HN.out]⟩
            case measure => simp [intOf]; omega
        · have hkl : k = (runs D).length := by omega
          subst hkl
          rw [HS0.out, HS1.out]
          have cl := cnt_le D
          clear hc2
          (go_wp2_with fail; (with_reducible refine (iBitsCount_any _ D _ _ rv (by omega)).mono ?_); rintro _ _ ⟨rfl, rfl⟩)
          rw [hbc]
          go_wp2_with fail
          go_ret
          exact ⟨retB (by simp), bb4⟩
set_option maxHeartbeats 4000000 in
set_option maxRecDepth 100000 in
theorem walk_FnWantsCount (v0 : Value) (L0 : List Int) (w : World) (r0 : RV w w.heap.size v0 (L0.map (Value.int .u8))) (b0 : ∀ n ∈ L0, (Lit.int .u8 n).wf = true) :
    Calls Try.prog 11 #[v0] w fun e w' => e = .returned (.bool true) ∧ Below w.heap.size w w' := by
  have rr0 := r0
  obtain ⟨A0, cap0, rfl, hl0, hm0, hc0⟩ := r0
  rw [List.length_map] at rr0 hl0 ⊢
  clear hc0
  unfold maxLen at hm0
  rcases small_case L0.length with hb | hb0
  · go_enter Try.func11, Try.ntmps11
    go_wp2_with fail
    go_ret
    exact ⟨rfl, Below.refl _ _⟩
  · go_enter Try.func11, Try.ntmps11
    (go_wp2_with fail; (with_reducible refine (DrawBitsWants_any _ L0 _ rr0 b0).mono ?_))
    rintro _ w1 ⟨va, vb, D, E, m, rfl, hD, hE, hm1, hm2, rD, rE, bb⟩
    have s1 := bb.size
    obtain ⟨AD, cD, rfl, hDl, hDm, hDc⟩ := row_slice rD
    obtain ⟨AE, cE, rfl, hEl, hEm, hEc⟩ := row_slice rE
    have rv := RV.mono (B' := w1.heap.size) rD.rv (by omega)
    have re := RV.mono (B' := w1.heap.size) rE.rv (by omega)
    have hrl : (wants D E).length ≤ 33554432 := wants_len3 D E
    clear hDc hEc
    (go_wp2_with fail; (with_reducible refine (iBitsWants_any _ _ D E _ rv re (by omega) (by omega)).mono ?_))
    rintro _ w2 ⟨v2, rfl, r2, b2⟩
    have s2 := b2.size
    replace rv := RV.mono (B' := w2.heap.size) (rv.below b2 (by omega)) (by omega)
    replace re := RV.mono (B' := w2.heap.size) (re.below b2 (by omega)) (by omega)
    (go_wp2_with fail; (with_reducible refine (sBitsWants_any _ _ D E _ rv re (by omega) (by omega)).mono ?_))
    rintro _ w3 ⟨v3, rfl, r3, b3⟩
    have s3 := b3.size
    replace r2 := r2.next b3 (by omega)
    replace rv := RV.mono (B' := w3.heap.size) (rv.below b3 (by omega)) (by omega)
    replace re := RV.mono (B' := w3.heap.size) (re.below b3 (by omega)) (by omega)
    (go_wp2_with fail; (with_reducible refine (sameInts_any _ _ (wants D E) (wants D E) _ _ true (RV.mono (B' := w3.heap.size) r2.rv (by omega)) (RV.mono (B' := w3.heap.size) r3.rv (by omega)) (Nat.le_refl _) hrl (eqI_self _)).mono ?_))
    rintro _ w4 ⟨rfl, b4⟩
    have s4 := b4.size
    replace r2 := r2.next b4 (by omega)
    replace rv := RV.mono (B' := w4.heap.size) (rv.below b4 (by omega)) (by omega)
    replace re := RV.mono (B' := w4.heap.size) (re.below b4 (by omega)) (by omega)
    have bb4 := bstep (bstep (bstep bb b2) b3) b4
    clear bb b2 b3
    rcases (show 16 < D.length ∨ (D.length ≤ 16 ∧ 16 < E.length) ∨ (D.length ≤ 16 ∧ E.length ≤ 16) by omega) with h16 | ⟨h16, h17⟩ | ⟨h16, h17⟩
    · (go_wp2_with fail; (with_reducible refine (sBitsWants_any _ _ D E _ rv re (by omega) (by omega)).mono ?_))
      rintro _ w5 ⟨v5, rfl, r5, b5⟩
      have s5 := b5.size
      replace r2 := r2.next b5 (by omega)
      (go_wp2_with fail; (with_reducible refine (sameInts_any _ _ (wants D E) (wants D E) _ _ true (RV.mono (B' := w5.heap.size) r2.rv (by omega)) (RV.mono (B' := w5.heap.size) r5.rv (by omega)) (Nat.le_refl _) hrl (eqI_self _)).mono ?_))
      rintro _ w6 ⟨rfl, b6⟩
      go_wp2_with fail
      go_ret
      exact ⟨rfl, bstep (bstep bb4 b5) b6⟩
    · (go_wp2_with fail; (with_reducible refine (sBitsWants_any _ _ D E _ rv re (by omega) (by omega)).mono ?_))
      rintro _ w5 ⟨v5, rfl, r5, b5⟩
      have s5 := b5.size
      replace r2 := r2.next b5 (by omega)
      (go_wp2_with fail; (with_reducible refine (sameInts_any _ _ (wants D E) (wants D E) _ _ true (RV.mono (B' := w5.heap.size) r2.rv (by omega)) (RV.mono (B' := w5.heap.size) r5.rv (by omega)) (Nat.le_refl _) hrl (eqI_self _)).mono ?_))
      rintro _ w6 ⟨rfl, b6⟩
      go_wp2_with fail
      go_ret
      exact ⟨rfl, bstep (bstep bb4 b5) b6⟩
    · have HT := hid' (wants_total (A := D) (B := E) h16 h17)
      have hbc := bcount_ok h16
      have cl := cnt_le D
      obtain ⟨A2, c2, hv2, hl2, hm2', hc2⟩ := row_ints r2
      subst hv2
      clear hc2
      have rvk := rv
      obtain ⟨Aa, ca, hva, hla, hma, hca⟩ := rv
      obtain ⟨Ab, cb, hvb, hlb, hmb, hcb⟩ := re
      rw [List.length_map] at hva hla hca hvb hlb hcb
      simp only [Value.slice.injEq] at hva hvb
      obtain ⟨rfl, _, rfl⟩ := hva
      obtain ⟨rfl, _, rfl⟩ := hvb
      go_wp2_with fail
      go_loop [6, 7] (fun n i => ∃ k : Nat, k ≤ D.length ∧ i = .int .i64 k ∧ n = .int .i64 (bothN D E k)) (fun _ i => D.length - (intOf i).toNat)
      case atStart => exact ⟨0, Nat.zero_le _, rfl, rfl⟩
      case round =>
        obtain ⟨k, hk, rfl, rfl⟩ := hrel
        have bl := bothN_le D E k
        rcases (show (k < D.length ∧ k < E.length) ∨ D.length ≤ k ∨ (k < D.length ∧ E.length ≤ k) by omega) with ⟨h1, h2⟩ | h1 | ⟨h1, h2⟩
        · obtain ⟨g, o2, rfl, hg, hcell⟩ := hca (by omega)
          obtain ⟨g', o2', rfl, hg', hcell'⟩ := hcb (by omega)
          obtain ⟨x, hx⟩ : ∃ x, D[k]? = some x := ⟨D[k], List.getElem?_eq_getElem h1⟩
          obtain ⟨y, hy⟩ : ∃ y, E[k]? = some y := ⟨E[k], List.getElem?_eq_getElem h2⟩
          have hcx := hcell k _ (by rw [List.getElem?_map, hx]; rfl)
          have hcy := hcell' k _ (by rw [List.getElem?_map, hy]; rfl)
          have HN : Hid (bothN D E (k + 1) = bothN D E k + if x = true ∧ y = true then 1 else 0) := both_step hx hy
          clear hcell hcell' hca hcb hx hy
          cases x
          · have HN' : Hid (bothN D E (k + 1) = bothN D E k) := by unfold Hid; rw [HN.out]; simp
            go_wp2_with fail
            go_round
            case rel => exact ⟨k + 1, by omega, by go_num, by rw [HN'.out]⟩
            case measure => simp [intOf]; omega
          · cases y
            · have HN' : Hid (bothN D E (k + 1) = bothN D E k) := by unfold Hid; rw [HN.out]; simp
              go_wp2_with fail
              go_round
              case rel => exact ⟨k + 1, by omega, by go_num, by rw [HN'.out]⟩
              case measure => simp [intOf]; omega
            · have HN' : Hid (bothN D E (k + 1) = bothN D E k + 1) := by unfold Hid; rw [HN.out]; simp
              go_wp2_with fail
              go_round
              case rel => exact ⟨k + 1, by omega, by go_num, by rw [HN'.out]; go_num⟩
              case measure => simp [intOf]; omega
        · have hkl : k = D.length := by omega
          subst hkl
          clear hca hcb
          go_wp2_with fail
          (with_reducible refine (iBitsCount_any _ D _ _ rvk (by omega)).mono ?_)
          rintro _ _ ⟨rfl, rfl⟩
          rw [hbc]
          have HT' := HT.out
          go_wp2_with fail
          go_ret
          exact ⟨retB (by simp; omega), bb4⟩
        · have HS := bothN_stop D E k (D.length - k) (.inl h2)
          rw [show k + (D.length - k) = D.length by omega] at HS
          rw [← HS]
          have HT' := HT.out
          clear hca hcb HS
          have bl2 := bothN_le D E D.length
          go_wp2_with fail
          (with_reducible refine (iBitsCount_any _ D _ _ rvk (by omega)).mono ?_)
          rintro _ _ ⟨rfl, rfl⟩
          rw [hbc]
          go_wp2_with fail
          go_ret
          exact ⟨retB (by simp; omega), bb4⟩
end Go.Proofs.Ytjmgkcmmhkpmhaa
