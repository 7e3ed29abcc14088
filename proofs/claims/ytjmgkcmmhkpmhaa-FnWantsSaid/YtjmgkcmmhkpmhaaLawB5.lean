/- The walks of laws on wanted places and on runs that go back. -/
import Derived.Test.YtjmgkcmmhkpmhaaLawB4
namespace Go.Proofs.Ytjmgkcmmhkpmhaa
set_option linter.unusedVariables false
open Go.RowKit
set_option maxHeartbeats 1000000 in
theorem hasInt_b (n : Int) (v : Value) (L : List Int) (B : Nat) (w : World) (b : Bool) (h : RV w B v (L.map (Value.int .i64))) (hn : L.length ≤ 1048576) (hb : decide (n ∈ L) = b) :
    Calls Try.prog 30 #[v, .int .i64 n] w fun e w' => e = .returned (.bool b) ∧ w = w' := by
  obtain ⟨A, cap, rfl, hl, hm, hc⟩ := h
  rw [List.length_map] at hl hc ⊢
  have HB := hid' hb
  clear hb
  go_enter Try.func30, Try.ntmps30
  go_wp2_with fail
  go_loop [5] (fun i => ∃ k : Nat, k ≤ L.length ∧ i = .int .i64 k ∧ Hid (n ∉ L.take k)) (fun i => L.length - (intOf i).toNat)
  case atStart => exact ⟨0, Nat.zero_le _, rfl, by unfold Hid; simp⟩
  case round =>
    obtain ⟨k, hk, rfl, hpre⟩ := hrel
    by_cases hlt : k < L.length
    · obtain ⟨b', off, rfl, hbB, hcell⟩ := hc (by omega)
      obtain ⟨x, hx⟩ : ∃ x, L[k]? = some x := ⟨L[k], List.getElem?_eq_getElem hlt⟩
      have hcx := hcell k (.int .i64 x) (by rw [List.getElem?_map, hx]; rfl)
      have HX := hid' hx
      clear hcell hc hx
      by_cases hxn : x = n
      · have HF : Hid (b = true) := by unfold Hid; rw [← HB.out, decide_eq_true_iff, ← hxn]; exact List.mem_of_getElem? HX.out
        have e1 : (x == n) = true := beq_iff_eq.2 hxn
        clear hxn
        go_wp2_with fail
        go_ret
        exact ⟨retB HF.out.symm, rfl⟩
      · have e1 : (x == n) = false := beq_eq_false_iff_ne.2 hxn
        have HP : Hid (n ∉ L.take (k + 1)) := by
          unfold Hid
          have hh := HX.out
          rw [List.getElem?_eq_getElem hlt] at hh
          simp only [Option.some.injEq] at hh
          rw [List.take_succ_eq_append_getElem hlt, hh, List.mem_append, List.mem_singleton]
          exact fun h => h.elim hpre.out fun e => hxn e.symm
        clear hxn
        go_wp2_with fail
        go_round
        case rel => exact ⟨k + 1, by omega, by go_num, HP⟩
        case measure => simp [intOf]; omega
    · have HF : Hid (b = false) := by
        have e := hpre.out
        rw [List.take_of_length_le (by omega)] at e
        unfold Hid; rw [← HB.out, decide_eq_false_iff_not]; exact e
      clear hc
      go_wp2_with fail
      go_ret
      exact ⟨retB HF.out.symm, rfl⟩
theorem getD_bool {L : List Bool} {k : Nat} {x : Bool} (h : L[k]? = some x) : L.getD k false = x := by rw [List.getD_eq_getElem?_getD, h]; rfl
theorem getD_out {L : List Bool} {k : Nat} (h : L.length ≤ k) : L.getD k false = false := by rw [List.getD_eq_getElem?_getD, List.getElem?_eq_none h]; rfl
theorem rv_bools {w : World} {B : Nat} {v : Value} {L : List Bool} (h : RV w B v (L.map Value.bool)) :
    ∃ A cap, v = .slice A L.length cap ∧ L.length ≤ cap ∧ cap ≤ maxLen ∧ (0 < L.length → ∃ b off, A = some ⟨b, off, none⟩ ∧ b < B ∧ ∀ i x, L[i]? = some x → w.cell? ⟨b, off + i, none⟩ = some (.bool x)) := by
  obtain ⟨A, cap, hv, hl, hm, hc⟩ := h
  rw [List.length_map] at hv hl hc
  refine ⟨A, cap, hv, hl, hm, fun h0 => ?_⟩
  obtain ⟨b, off, hA, hb, hcell⟩ := hc h0
  exact ⟨b, off, hA, hb, fun i x hx => hcell i _ (by rw [List.getElem?_map, hx]; rfl)⟩
set_option maxHeartbeats 8000000 in
set_option maxRecDepth 100000 in
theorem walk_FnWants (v0 : Value) (L0 : List Int) (w : World) (r0 : RV w w.heap.size v0 (L0.map (Value.int .u8))) (b0 : ∀ n ∈ L0, (Lit.int .u8 n).wf = true) :
    Calls Try.prog 8 #[v0] w fun e w' => e = .returned (.bool true) ∧ Below w.heap.size w w' := by
  have rr0 := r0
  obtain ⟨A0, cap0, rfl, hl0, hm0, hc0⟩ := r0
  rw [List.length_map] at rr0 hl0 ⊢
  clear hc0
  unfold maxLen at hm0
  rcases small_case L0.length with hb | hb0
  · go_enter Try.func8, Try.ntmps8
    go_wp2_with fail
    go_ret
    exact ⟨rfl, Below.refl _ _⟩
  · go_enter Try.func8, Try.ntmps8
    (go_wp2_with fail; (with_reducible refine (DrawBitsWants_any _ L0 _ rr0 b0).mono ?_))
    rintro _ w1 ⟨va, vb, D, E, m, rfl, hD, hE, hm1, hm2, rD, rE, bb⟩
    have s1 := bb.size
    obtain ⟨AD, cD, rfl, hDl, hDm, hDc⟩ := row_slice rD
    obtain ⟨AE, cE, rfl, hEl, hEm, hEc⟩ := row_slice rE
    have rv := RV.mono (B' := w1.heap.size) rD.rv (by omega)
    have re := RV.mono (B' := w1.heap.size) rE.rv (by omega)
    have hrl : (wants D E).length ≤ 33554432 := wants_len3 D E
    clear hDc hEc
    (go_wp2_with fail; (with_reducible refine (iBitsWants_any _ _ D E _ rv re (by omega) (by omega)).mono ?_))
    rintro _ w2 ⟨v2, rfl, r2, b2⟩
    have s2 := b2.size
    replace rv := RV.mono (B' := w2.heap.size) (rv.below b2 (by omega)) (by omega)
    replace re := RV.mono (B' := w2.heap.size) (re.below b2 (by omega)) (by omega)
    (go_wp2_with fail; (with_reducible refine (sBitsWants_any _ _ D E _ rv re (by omega) (by omega)).mono ?_))
    rintro _ w3 ⟨v3, rfl, r3, b3⟩
    have s3 := b3.size
    replace r2 := r2.next b3 (by omega)
    replace rv := RV.mono (B' := w3.heap.size) (rv.below b3 (by omega)) (by omega)
    replace re := RV.mono (B' := w3.heap.size) (re.below b3 (by omega)) (by omega)
    (go_wp2_with fail; (with_reducible refine (sameInts_any _ _ (wants D E) (wants D E) _ _ true (RV.mono (B' := w3.heap.size) r2.rv (by omega)) (RV.mono (B' := w3.heap.size) r3.rv (by omega)) (Nat.le_refl _) hrl (eqI_self _)).mono ?_))
    rintro _ w4 ⟨rfl, b4⟩
    have s4 := b4.size
    replace r2 := r2.next b4 (by omega)
    replace rv := RV.mono (B' := w4.heap.size) (rv.below b4 (by omega)) (by omega)
    replace re := RV.mono (B' := w4.heap.size) (re.below b4 (by omega)) (by omega)
    have bb4 := bstep (bstep (bstep bb b2) b3) b4
    clear bb b2 b3
    rcases (show 16 < D.length ∨ (D.length ≤ 16 ∧ 16 < E.length) ∨ (D.length ≤ 16 ∧ E.length ≤ 16) by omega) with h16 | ⟨h16, h17⟩ | ⟨h16, h17⟩
    · (go_wp2_with fail; (with_reducible refine (sBitsWants_any _ _ D E _ rv re (by omega) (by omega)).mono ?_))
      rintro _ w5 ⟨v5, rfl, r5, b5⟩
      have s5 := b5.size
      replace r2 := r2.next b5 (by omega)
      (go_wp2_with fail; (with_reducible refine (sameInts_any _ _ (wants D E) (wants D E) _ _ true (RV.mono (B' := w5.heap.size) r2.rv (by omega)) (RV.mono (B' := w5.heap.size) r5.rv (by omega)) (Nat.le_refl _) hrl (eqI_self _)).mono ?_))
      rintro _ w6 ⟨rfl, b6⟩
      go_wp2_with fail
      go_ret
      exact ⟨rfl, bstep (bstep bb4 b5) b6⟩
    · (go_wp2_with fail; (with_reducible refine (sBitsWants_any _ _ D E _ rv re (by omega) (by omega)).mono ?_))
      rintro _ w5 ⟨v5, rfl, r5, b5⟩
      have s5 := b5.size
      replace r2 := r2.next b5 (by omega)
      (go_wp2_with fail; (with_reducible refine (sameInts_any _ _ (wants D E) (wants D E) _ _ true (RV.mono (B' := w5.heap.size) r2.rv (by omega)) (RV.mono (B' := w5.heap.size) r5.rv (by omega)) (Nat.le_refl _) hrl (eqI_self _)).mono ?_))
      rintro _ w6 ⟨rfl, b6⟩
      go_wp2_with fail
      go_ret
      exact ⟨rfl, bstep (bstep bb4 b5) b6⟩
    · have HS := hid' (fun (i : Nat) (x y : Int) (hx : (wants D E)[i]? = some x) (hy : (wants D E)[i + 1]? = some y) => wants_sorted (A := D) (B := E) h16 h17 hx hy)
      have HH := hid' (fun (i : Nat) => wants_has (A := D) (B := E) h16 h17 i)
      have hwl : (wants D E).length ≤ 1048576 := by
        rw [wants_ok h16 h17, List.length_map]; have := wantsN_len D E D.length; omega
      obtain ⟨A2, c2, hv2, hl2, hm2, hc2⟩ := row_ints r2
      subst hv2
      obtain ⟨A', c', hv', _, _, hDc⟩ := rv_bools rv
      simp only [Value.slice.injEq] at hv'
      obtain ⟨rfl, _, rfl⟩ := hv'
      obtain ⟨A'', c'', hv'', _, _, hEc⟩ := rv_bools re
      simp only [Value.slice.injEq] at hv''
      obtain ⟨rfl, _, rfl⟩ := hv''
      have HD := hid' hDc
      have HE := hid' hEc
      have HC2 := hid' hc2
      clear hDc hEc hc2
      go_wp2_with fail
      go_loopw [6] (fun i wr => ∃ k : Nat, k ≤ D.length ∧ i = .int .i64 k ∧ Below w4.heap.size w4 wr) (fun i _ => D.length - (intOf i).toNat)
      case atStart => exact ⟨0, Nat.zero_le _, rfl, Below.refl _ _⟩
      case round =>
        obtain ⟨k, hk, rfl, hbel⟩ := hrel
        have hsz := hbel.size
        by_cases hlt : k < D.length
        · obtain ⟨b1, o1, rfl, hb1, hca⟩ := HD.out (by omega)
          obtain ⟨x, hx⟩ : ∃ x, D[k]? = some x := ⟨D[k], List.getElem?_eq_getElem hlt⟩
          have hcx : wr.cell? ⟨b1, o1 + k, none⟩ = some (.bool x) := (hbel.cell (p := ⟨b1, o1 + k, none⟩) hb1).trans (hca k x hx)
          have r2k : ∀ n : Nat, RV (wr.drewN n) wr.heap.size (.slice A2 (wants D E).length c2) ((wants D E).map (Value.int .i64)) := fun n => RV.mono ((r2.next hbel (by omega)).rv.below (below_drewN (Below.refl wr.heap.size wr) n) (by omega)) (by omega)
          have hv := HH.out k
          rw [getD_bool hx] at hv
          have kc0 : (0 : Int) ≤ (k : Int) := by omega
          have kc1 : (k : Int) < (D.length : Int) := by omega
          clear hx
          cases x
          · have HV : Hid (decide ((k : Int) ∈ wants D E) = false) := by unfold Hid; rw [hv]; rfl
            clear hv hca
            have I := hid' (fun (n : Nat) => hasInt_b (k : Int) _ (wants D E) _ (wr.drewN n) false (r2k n) hwl HV.out)
            go_wp2_with fail
            go_quiet ((go_at_call 30; go_must (exact quietL (I.out _))))
            go_wp2_with fail
            go_roundw
            case rel => exact ⟨k + 1, by omega, by go_num, below_drewN hbel _⟩
            case measure => simp [intOf]; omega
          · by_cases hke : k < E.length
            · obtain ⟨b2, o2, rfl, hb2, hce⟩ := HE.out (by omega)
              obtain ⟨y, hy⟩ : ∃ y, E[k]? = some y := ⟨E[k], List.getElem?_eq_getElem hke⟩
              have hcy : wr.cell? ⟨b2, o2 + k, none⟩ = some (.bool y) := (hbel.cell (p := ⟨b2, o2 + k, none⟩) hb2).trans (hce k y hy)
              rw [getD_bool hy] at hv
              have ke1 : (k : Int) < (E.length : Int) := by omega
              have ke2 : decide ((E.length : Int) ≤ (k : Int)) = false := decide_eq_false (by omega)
              clear hy hca hce
              cases y
              · have HV : Hid (decide ((k : Int) ∈ wants D E) = true) := by unfold Hid; rw [hv]; rfl
                clear hv
                have I := hid' (fun (n : Nat) => hasInt_b (k : Int) _ (wants D E) _ (wr.drewN n) true (r2k n) hwl HV.out)
                go_wp2_with fail
                go_quiet ((go_at_call 30; go_must (exact quietL (I.out _))))
                go_wp2_with fail
                go_roundw
                case rel => exact ⟨k + 1, by omega, by go_num, below_drewN hbel _⟩
                case measure => simp [intOf]; omega
              · have HV : Hid (decide ((k : Int) ∈ wants D E) = false) := by unfold Hid; rw [hv]; rfl
                clear hv
                have I := hid' (fun (n : Nat) => hasInt_b (k : Int) _ (wants D E) _ (wr.drewN n) false (r2k n) hwl HV.out)
                go_wp2_with fail
                go_quiet ((go_at_call 30; go_must (exact quietL (I.out _))))
                go_wp2_with fail
                go_roundw
                case rel => exact ⟨k + 1, by omega, by go_num, below_drewN hbel _⟩
                case measure => simp [intOf]; omega
            · have HV : Hid (decide ((k : Int) ∈ wants D E) = true) := by unfold Hid; rw [hv, getD_out (by omega)]; rfl
              have ke2 : (E.length : Int) ≤ (k : Int) := by omega
              have ke3 : ¬ ((k : Int) < (E.length : Int)) := by omega
              clear hv hca
              have I := hid' (fun (n : Nat) => hasInt_b (k : Int) _ (wants D E) _ (wr.drewN n) true (r2k n) hwl HV.out)
              go_wp2_with fail
              go_quiet ((go_at_call 30; go_must (exact quietL (I.out _))))
              go_wp2_with fail
              go_roundw
              case rel => exact ⟨k + 1, by omega, by go_num, below_drewN hbel _⟩
              case measure => simp [intOf]; omega
        · go_wp2_with fail
          obtain ⟨wo, hwo⟩ : ∃ wo : World, wo = wr := ⟨_, rfl⟩
          subst hwo
          go_loopw [7] (fun i wr => ∃ j : Nat, j ≤ (wants D E).length ∧ i = .int .i64 ((j : Int) + 1) ∧ Below w4.heap.size w4 wr) (fun i _ => (wants D E).length + 2 - (intOf i).toNat)
          case atStart => exact ⟨0, Nat.zero_le _, rfl, hbel⟩
          case round =>
            obtain ⟨j, hj, rfl, hbel2⟩ := hrel
            by_cases hlt2 : j + 1 < (wants D E).length
            · obtain ⟨b3, o3, rfl, hb3, hcw⟩ := HC2.out (by omega)
              obtain ⟨x, hx⟩ : ∃ x, (wants D E)[j]? = some x := ⟨(wants D E)[j], List.getElem?_eq_getElem (by omega)⟩
              obtain ⟨y, hy⟩ : ∃ y, (wants D E)[j + 1]? = some y := ⟨(wants D E)[j + 1], List.getElem?_eq_getElem hlt2⟩
              have hxy := HS.out j x y hx hy
              have hcx : wr.cell? ⟨b3, o3 + j, none⟩ = some (.int .i64 x) := (hbel2.cell (p := ⟨b3, o3 + j, none⟩) (by show b3 < _; omega)).trans (hcw j x hx)
              have hcy : wr.cell? ⟨b3, o3 + (j + 1), none⟩ = some (.int .i64 y) := (hbel2.cell (p := ⟨b3, o3 + (j + 1), none⟩) (by show b3 < _; omega)).trans (hcw (j + 1) y hy)
              have hxy2 : decide (y ≤ x) = false := decide_eq_false (by omega)
              have q1 : IntKind.i64.wrap ((j : Int) + 1 - 1) = (j : Int) := by rw [show (j : Int) + 1 - 1 = (j : Int) by omega]; exact IntWalk.i64_in _ (by omega)
              have q2 : (j : Int) < ((wants D E).length : Int) := by omega
              have q3 : (j : Int) + 1 < ((wants D E).length : Int) := by omega
              have q4 : (0 : Int) ≤ (j : Int) + 1 := by omega
              have q5 : ((j : Int) + 1).toNat = j + 1 := by omega
              have q6 : IntKind.i64.wrap (j : Int) = (j : Int) := IntWalk.i64_in _ (by omega)
              clear hx hy hcw
              go_wp2_with fail
              go_quiet (fail)
              go_wp2_with fail
              go_roundw
              case rel => exact ⟨j + 1, by omega, by go_num, below_drewN hbel2 _⟩
              case measure => simp [intOf]; omega
            · go_wp2_with fail
              go_ret
              exact ⟨rfl, bstep bb4 hbel2⟩
end Go.Proofs.Ytjmgkcmmhkpmhaa
