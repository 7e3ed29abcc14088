/- The walk of the reference's TreeCheck. -/
import Derived.Test.YtnhpilipkeddiaaCheck
namespace Go.Proofs.Ytnhpilipkeddiaa
set_option linter.unusedVariables false
open Go.RowKit

theorem tr_inj (n : Nat) (hn : n ≤ 16) {x k : Nat} {s t : Nat × Nat} (hs : (tr 0 n)[x]? = some s) (ht : (tr 0 n)[k]? = some t) : s.1 = t.1 ↔ x = k := by
  have hl : ∀ n : Fin 17, (tr 0 n.1).length ≤ 5 := by decide +kernel
  have T : ∀ n : Fin 17, ∀ x : Fin 5, ∀ k : Fin 5, ((tr 0 n.1)[x.1]?).all (fun s => ((tr 0 n.1)[k.1]?).all (fun t => (s.1 == t.1) == (x.1 == k.1))) = true := by decide +kernel
  have lt : ∀ {j : Nat} {u : Nat × Nat}, (tr 0 n)[j]? = some u → j < 5 := fun {j u} h => by
    have h5 := hl ⟨n, by omega⟩
    rcases Nat.lt_or_ge j 5 with h1 | h1
    · exact h1
    · rw [List.getElem?_eq_none (by simp at h5; omega)] at h; cases h
  have h6 := T ⟨n, by omega⟩ ⟨x, lt hs⟩ ⟨k, lt ht⟩
  simp only [hs, ht, Option.all_some, beq_iff_eq] at h6
  rw [← beq_iff_eq (a := s.1), h6, beq_iff_eq]
/-- the place in the list that is folded -/
theorem fold_at {l : List Int} {u : Int} {t k x : Nat} (hk : k ≤ l.length - t) (hx : x < k ∨ x = k ∨ k < x) :
    (x = k → ((l.drop t).take k ++ u :: (l.drop t).drop k)[x]? = some u) ∧ (x < k → ((l.drop t).take k ++ u :: (l.drop t).drop k)[x]? = l[t + x]?) ∧ (k < x → ((l.drop t).take k ++ u :: (l.drop t).drop k)[x]? = l[t + x - 1]?) := by
  have hlen : ((l.drop t).take k).length = k := by rw [List.length_take, List.length_drop]; omega
  refine ⟨fun h => ?_, fun h => ?_, fun h => ?_⟩
  · rw [List.getElem?_append_right (by omega), hlen, h, Nat.sub_self]; rfl
  · rw [List.getElem?_append_left (by omega), List.getElem?_take, if_pos h, List.getElem?_drop]
  · rw [List.getElem?_append_right (by omega), hlen, show x - k = (x - k - 1) + 1 by omega, List.getElem?_cons_succ, List.getElem?_drop, List.getElem?_drop]
    congr 1; omega
theorem lf_some {l : List Int} {j : Nat} (h : j < l.length) : l[j]? = some (lf l j) := by
  unfold lf; rw [List.getD_eq_getElem?_getD, List.getElem?_eq_getElem h]; rfl
set_option maxHeartbeats 8000000 in
set_option maxRecDepth 100000 in
theorem l2Check_b (d leaf : Int) (N m : Nat) (v : Value) (l : List Int) (w : World) (b : Bool) (h : RV w w.heap.size v (l.map (Value.int .i64))) (hn : l.length ≤ 1048576) (hfr : tfront (N : Int) (m : Int) leaf l = true) (h1 : inB (N : Int) 1 16 = true) (h2 : inB (m : Int) 0 ((N : Int) - 1) = true) (h3 : digB leaf = true) (h4 : digs l = true) (hb : tcheck d (N : Int) (m : Int) leaf l = b) :
    Calls Try.prog 29 #[.int .i64 d, .int .i64 (N : Int), .int .i64 (m : Int), .int .i64 leaf, v] w fun e w' => e = .returned (.bool b) ∧ w = w' := by
  obtain ⟨A, cap, rfl, hl, hm, hc⟩ := rv_intsC' h
  obtain ⟨n0, n1⟩ := inB_true.1 h1
  obtain ⟨i0, i1⟩ := inB_true.1 h2
  have hmn : m < N := by omega
  have hN16 : N ≤ 16 := by omega
  obtain ⟨k, a, t, AT⟩ := at_ok N m hN16 hmn
  have hpl := AT.proofLen
  have HAT := hid' AT
  have HB := hid' hb
  have kl := AT.lt
  have k5 := AT.len
  have kh := AT.h4
  have HPL := hid' hpl
  have HFR := hid' hfr
  have HC := hid' hc
  clear AT hpl hfr hc h hb
  go_enter Try.func29, Try.ntmps29
  (go_wp2_with fail; (with_reducible refine (l2Peak_any N m k a t _ HAT.out hN16).mono ?_); rintro _ _ ⟨rfl, rfl⟩)
  obtain ⟨y, hy⟩ : ∃ y : Nat, y = 2 ^ t := ⟨_, rfl⟩
  rw [← hy]
  have y2 : y ≤ 16 := by rw [hy]; exact Nat.pow_le_pow_right (n := 2) (by decide) kh
  have HY := hid' hy
  clear hy
  go_wp2_with fail
  go_loop [13, 14, 15] (fun r q s => ∃ (j : Nat) (u : Int), j ≤ t ∧ j ≤ l.length ∧ q = .int .i64 j ∧ s = .int .i64 ((2 ^ j : Nat) : Int) ∧ r = .int .i64 u ∧ Hid (u = climb pr m (lf l) leaf j)) (fun _ _ s => 32 - (intOf s).toNat)
  case atStart => exact ⟨0, leaf, Nat.zero_le _, Nat.zero_le _, rfl, rfl, rfl, rfl⟩
  case round =>
    obtain ⟨j, u, hj, hjl, rfl, rfl, rfl, hu⟩ := hrel
    have hpw := @pow_lt j t
    have b1 : 2 ^ j ≤ 16 := Nat.pow_le_pow_right (n := 2) (by decide) (Nat.le_trans hj kh)
    have b3 : 1 ≤ 2 ^ j := Nat.pow_pos (by decide)
    rw [← HY.out] at hpw
    have hud : digB u = true := by rw [hu.out]; exact climb_bd h4 h3 m j
    obtain ⟨ud0, ud1⟩ := digB_true.1 hud
    by_cases hlt : j < t
    · have hp' := hpw.2 hlt
      by_cases hend : j = l.length
      · have HF : Hid (b = false) := HB.out.symm.trans (tcheck_len (by rw [HPL.out]; omega))
        have e0 : ((j : Int) == (l.length : Int)) = true := beq_iff_eq.2 (by omega)
        obtain ⟨z, hz⟩ : ∃ z : Nat, z = 2 ^ j := ⟨_, rfl⟩
        rw [← hz] at b1 b3 hp' ⊢
        clear hz hpw hend
        go_wp2_with fail
        go_ret
        exact ⟨retB HF.out.symm, rfl⟩
      · have hjlt : j < l.length := by omega
        have e0 : ((j : Int) == (l.length : Int)) = false := beq_eq_false_iff_ne.2 (by omega)
        obtain ⟨b0, off, rfl, hbB, hx⟩ := HC.out (by omega)
        obtain ⟨x, hxv⟩ : ∃ x, lf l j = x := ⟨_, rfl⟩
        have hcx : w.cell? ⟨b0, off + j, none⟩ = some (.int .i64 x) := by rw [← hxv]; exact hx j _ (lf_some hjlt)
        obtain ⟨dx0, dx1⟩ := lf_dig h4 j
        rw [hxv] at dx0 dx1
        have HX := hid' hxv
        obtain ⟨z, hz⟩ : ∃ z : Nat, z = 2 ^ j := ⟨_, rfl⟩
        obtain ⟨dd, hdv⟩ : ∃ dd : Nat, dd = m / 2 ^ j := ⟨_, rfl⟩
        have HDV := hid' hdv
        have HZ := hid' hz
        have hzne : ((z : Int) == 0) = false := by rw [hz]; exact beq_eq_false_iff_ne.2 (by omega)
        rw [← hz] at b1 b3 hp' ⊢
        have e1 : (m : Int).tdiv (z : Int) = (dd : Int) := by rw [Int.tdiv_eq_ediv_of_nonneg (by omega), hdv, hz]; rfl
        have e1' : (m : Int) / (z : Int) = (dd : Int) := by rw [hdv, hz]; rfl
        have hdl : dd ≤ 16 := by rw [hdv]; exact Nat.le_trans (Nat.div_le_self _ _) (by omega)
        have hpz : ((2 ^ (j + 1) : Nat) : Int) = 2 * (z : Int) := by rw [Nat.pow_succ, ← HZ.out, Nat.mul_comm]; exact Int.natCast_mul 2 z
        have HPW := hid' hpz
        clear hz hpz hdv hpw hx hend hxv
        by_cases hpar : dd % 2 = 0
        · have e5 : (dd : Int).tmod 2 = 0 := by rw [Int.tmod_eq_emod_of_nonneg (by omega)]; omega
          have e5' : (dd : Int) % 2 = 0 := by omega
          have HN : Hid (pr u x = climb pr m (lf l) leaf (j + 1)) := by unfold Hid climb; rw [if_pos (by rw [← HDV.out]; exact hpar), ← hu.out, HX.out]
          clear hpar
          (go_wp2_with fail; (with_reducible refine (l1Pair_any u x _ ud0 (by omega) dx0 (by omega)).mono ?_); rintro _ _ ⟨rfl, rfl⟩)
          go_wp2_with fail
          go_round
          case rel => exact ⟨j + 1, _, by omega, by omega, by go_num, by rw [HPW.out], rfl, HN⟩
          case measure => simp [intOf]; omega
        · have e5 : (dd : Int).tmod 2 = 1 := by rw [Int.tmod_eq_emod_of_nonneg (by omega)]; omega
          have e5' : (dd : Int) % 2 = 1 := by omega
          have HN : Hid (pr x u = climb pr m (lf l) leaf (j + 1)) := by unfold Hid climb; rw [if_neg (by rw [← HDV.out]; exact hpar), ← hu.out, HX.out]
          clear hpar
          (go_wp2_with fail; (with_reducible refine (l1Pair_any x u _ dx0 (by omega) ud0 (by omega)).mono ?_); rintro _ _ ⟨rfl, rfl⟩)
          go_wp2_with fail
          go_round
          case rel => exact ⟨j + 1, _, by omega, by omega, by go_num, by rw [HPW.out], rfl, HN⟩
          case measure => simp [intOf]; omega
    · have hjt : j = t := by omega
      have hp' : ¬ (2 ^ j < y) := fun hh => hlt (hpw.1 hh)
      obtain ⟨z, hz⟩ : ∃ z : Nat, z = 2 ^ j := ⟨_, rfl⟩
      rw [← hz] at b1 b3 hp' ⊢
      rw [hjt] at hu hjl ⊢
      clear hz hpw hlt hjt
      obtain ⟨P, hPe⟩ : ∃ P, P = (l.drop t).take k ++ u :: (l.drop t).drop k := ⟨_, rfl⟩
      have HPE := hid' hPe
      have hdg : digs P = true := by
        rw [hPe]
        exact LR_digs fun n hn => by
          rcases List.mem_append.1 hn with h | h
          · exact dig_of (digs_take (digs_drop h4 t) k) n h
          · rcases List.mem_cons.1 h with h | h
            · rw [h]; exact ⟨ud0, ud1⟩
            · exact dig_of (digs_drop (digs_drop h4 t) k) n h
      have HDG := hid' hdg
      have hN0 : digB (N : Int) = true := digB_true.2 ⟨by omega, by omega⟩
      clear hPe hdg
      go_wp2_with fail
      go_loop [14, 16, 17] (fun q o s => ∃ (c f uu : Nat) (D : List (Nat × Nat)), c ≤ 16 ∧ N ≤ c + f ∧ D.length + f ≤ 16 ∧ s = .int .i64 c ∧ Hid (D ++ trF f c N = tr 0 N) ∧ q = .int .i64 uu ∧ uu ≤ l.length ∧ ((D.length ≤ k ∧ uu = t + D.length) ∨ (k < D.length ∧ uu + 1 = t + D.length)) ∧ o = .int .i64 (foldD (N : Int) (P.take D.length))) (fun _ _ s => 16 - (intOf s).toNat)
      case atStart => exact ⟨0, 16, t, [], by omega, by omega, by simp, rfl, rfl, rfl, hjl, .inl ⟨Nat.zero_le _, rfl⟩, rfl⟩
      case round =>
        obtain ⟨c, f, uu, D, hcc, hf, hDf, rfl, hD, rfl, huu, hux, rfl⟩ := hrel
        obtain ⟨o0, o1⟩ := digB_true.1 (foldD_dig (P.take D.length) (N : Int) hN0)
        obtain ⟨oo, hoo⟩ : ∃ oo, foldD (N : Int) (P.take D.length) = oo := ⟨_, rfl⟩
        have HO := hid' hoo
        rw [hoo] at o0 o1 ⊢
        clear hoo
        by_cases hlt : c < N
        · have hend := ht_end c N hlt hN16
          have hpos : 0 < (2 : Nat) ^ ht c N := Nat.pow_pos (by decide)
          have hget : (tr 0 N)[D.length]? = some (c, ht c N) := by
            have h := hD.out
            rw [show f = (f - 1) + 1 by omega, trF_yes hlt] at h
            rw [← h, List.getElem?_append_right (Nat.le_refl _), Nat.sub_self]; rfl
          have hxl : D.length < (tr 0 N).length := by
            rcases Nat.lt_or_ge D.length (tr 0 N).length with h1 | h1
            · exact h1
            · rw [List.getElem?_eq_none h1] at hget; cases hget
          have hinj := tr_inj N hN16 hget HAT.out.get
          simp only at hinj
          obtain ⟨s, hs⟩ : ∃ s : Nat, s = 2 ^ ht c N := ⟨_, rfl⟩
          have HSZ : Hid (szI c N = (s : Int)) := by unfold Hid szI; rw [hs]
          have HT : Hid ((D ++ [(c, ht c N)]) ++ trF (f - 1) (c + s) N = tr 0 N) := by
            have h := hD.out
            rw [show f = (f - 1) + 1 by omega, trF_yes hlt] at h
            unfold Hid; rw [← h, List.append_assoc, hs]; rfl
          rw [← hs] at hend hpos
          have hdl1 : (D ++ [(c, ht c N)]).length = D.length + 1 := by rw [List.length_append]; rfl
          have HDL := hid' hdl1
          clear hs hget hdl1
          by_cases hca : c = a
          · have hx := hinj.1 hca
            have hf1 : ((c : Int) == (a : Int)) = true := beq_iff_eq.2 (by omega)
            have hkq : k ≤ l.length - t := by omega
            have hP : P[D.length]? = some u := by rw [HPE.out]; exact (fold_at hkq (by omega)).1 hx
            have HN : Hid (foldD (N : Int) (P.take (D.length + 1)) = pr oo u) := by unfold Hid; rw [foldD_snoc hP, HO.out]
            clear hinj hca hP
            (go_wp2_with fail; (with_reducible refine (l1Pair_any oo u _ o0 (by omega) ud0 (by omega)).mono ?_); rintro _ _ ⟨rfl, rfl⟩)
            go_wp2_with fail
            (with_reducible refine (l2Size_any c N _ hcc hN16).mono ?_)
            rintro _ _ ⟨rfl, rfl⟩
            rw [HSZ.out]
            go_wp2_with fail
            go_round
            case rel => exact ⟨c + s, f - 1, uu, D ++ [(c, ht c N)], by omega, by omega, by rw [HDL.out]; omega, by go_num, HT, rfl, huu, by rw [HDL.out]; omega, by rw [HDL.out, HN.out]⟩
            case measure => simp [intOf]; omega
          · have hx : D.length ≠ k := fun hh => hca (hinj.2 hh)
            have hf1 : ((c : Int) == (a : Int)) = false := beq_eq_false_iff_ne.2 (by omega)
            by_cases hue : uu = l.length
            · have HF : Hid (b = false) := HB.out.symm.trans (tcheck_len (by rw [HPL.out]; omega))
              have e0 : ((uu : Int) == (l.length : Int)) = true := beq_iff_eq.2 (by omega)
              clear hinj hca hue
              go_wp2_with fail
              go_ret
              exact ⟨retB HF.out.symm, rfl⟩
            · have hult : uu < l.length := by omega
              have e0 : ((uu : Int) == (l.length : Int)) = false := beq_eq_false_iff_ne.2 (by omega)
              obtain ⟨b0, off, rfl, hbB, hxc⟩ := HC.out (by omega)
              obtain ⟨x, hxv⟩ : ∃ x, lf l uu = x := ⟨_, rfl⟩
              have hcx : w.cell? ⟨b0, off + uu, none⟩ = some (.int .i64 x) := by rw [← hxv]; exact hxc uu _ (lf_some hult)
              obtain ⟨dx0, dx1⟩ := lf_dig h4 uu
              rw [hxv] at dx0 dx1
              have hP : P[D.length]? = some x := by
                rw [HPE.out, ← hxv, ← lf_some hult]
                rcases hux with ⟨q1, q2⟩ | ⟨q1, q2⟩
                · have hlk : D.length < k := by omega
                  rcases Nat.lt_or_ge (l.length - t) k with h9 | h9
                  · rw [List.take_of_length_le (by rw [List.length_drop]; omega), List.getElem?_append_left (by rw [List.length_drop]; omega), List.getElem?_drop, q2]
                  · rw [(fold_at h9 (by omega)).2.1 hlk, q2]
                · rw [(fold_at (by omega) (by omega)).2.2 q1]
                  congr 1; omega
              have HN : Hid (foldD (N : Int) (P.take (D.length + 1)) = pr oo x) := by unfold Hid; rw [foldD_snoc hP, HO.out]
              clear hinj hca hue hP hxv hxc
              (go_wp2_with fail; (with_reducible refine (l1Pair_any oo x _ o0 (by omega) dx0 (by omega)).mono ?_); rintro _ _ ⟨rfl, rfl⟩)
              go_wp2_with fail
              (with_reducible refine (l2Size_any c N _ hcc hN16).mono ?_)
              rintro _ _ ⟨rfl, rfl⟩
              rw [HSZ.out]
              go_wp2_with fail
              go_round
              case rel => exact ⟨c + s, f - 1, uu + 1, D ++ [(c, ht c N)], by omega, by omega, by rw [HDL.out]; omega, by go_num, HT, by go_num, by omega, by rw [HDL.out]; omega, by rw [HDL.out, HN.out]⟩
              case measure => simp [intOf]; omega
        · have hDT : D = tr 0 N := by have := hD.out; rw [trF_no (by omega), List.append_nil] at this; exact this
          have hDl : D.length = (tr 0 N).length := by rw [hDT]
          by_cases hue : uu = l.length
          · have e0 : ((uu : Int) == (l.length : Int)) = true := beq_iff_eq.2 (by omega)
            have hll : l.length = proofLen N m := by rw [HPL.out]; omega
            have hPl : P.length ≤ D.length := by rw [HPE.out]; simp; omega
            have HV : Hid (b = (oo == d)) := by
              unfold Hid
              have hPo := HO.out
              rw [List.take_of_length_le hPl] at hPo
              rw [← HB.out, tcheck_yes HFR.out hll, HAT.out.checkVal, ← hu.out, ← HPE.out, hPo]
            clear hDT hDl hue hll hPl
            go_wp2_with fail
            go_ret
            exact ⟨retB HV.out.symm, rfl⟩
          · have HF : Hid (b = false) := HB.out.symm.trans (tcheck_len (by rw [HPL.out]; omega))
            have e0 : ((uu : Int) == (l.length : Int)) = false := beq_eq_false_iff_ne.2 (by omega)
            clear hDT hDl hue
            go_wp2_with fail
            go_ret
            exact ⟨retB HF.out.symm, rfl⟩
set_option maxHeartbeats 2000000 in
theorem sTreeCheck_b (d n i leaf : Int) (v : Value) (l : List Int) (w : World) (b : Bool) (h : RV w w.heap.size v (l.map (Value.int .i64))) (hn : l.length ≤ 1048576) (hb : tcheck d n i leaf l = b) :
    Calls Try.prog 10 #[.int .i64 d, .int .i64 n, .int .i64 i, .int .i64 leaf, v] w fun e w' => e = .returned (.bool b) ∧ w = w' := by
  have rr := h
  obtain ⟨A, cap, rfl, hl, hm, hc⟩ := h
  rw [List.length_map] at rr hl ⊢
  clear hc
  have HB := hid' hb
  clear hb
  cases h1 : inB n 1 16
  · have HF : Hid (b = false) := HB.out.symm.trans (tcheck_no (by unfold tfront; rw [h1]; rfl))
    go_enter Try.func10, Try.ntmps10
    (go_wp2_with fail; (with_reducible refine (l6In_b n 1 16 false _ h1).mono ?_); rintro _ _ ⟨rfl, rfl⟩)
    go_wp2_with fail
    go_ret
    exact ⟨retB HF.out.symm, rfl⟩
  · obtain ⟨n0, n1⟩ := inB_true.1 h1
    cases h2 : inB i 0 (n - 1)
    · have HF : Hid (b = false) := HB.out.symm.trans (tcheck_no (by unfold tfront; rw [h1, h2]; rfl))
      go_enter Try.func10, Try.ntmps10
      (go_wp2_with fail; (with_reducible refine (l6In_b n 1 16 true _ h1).mono ?_); rintro _ _ ⟨rfl, rfl⟩)
      (go_wp2_with fail; (with_reducible refine (l6In_b i 0 (n - 1) false _ h2).mono ?_); rintro _ _ ⟨rfl, rfl⟩)
      go_wp2_with fail
      go_ret
      exact ⟨retB HF.out.symm, rfl⟩
    · obtain ⟨i0, i1⟩ := inB_true.1 h2
      cases h3 : digB leaf
      · have HF : Hid (b = false) := HB.out.symm.trans (tcheck_no (by unfold tfront; rw [h1, h2, h3]; rfl))
        go_enter Try.func10, Try.ntmps10
        (go_wp2_with fail; (with_reducible refine (l6In_b n 1 16 true _ h1).mono ?_); rintro _ _ ⟨rfl, rfl⟩)
        (go_wp2_with fail; (with_reducible refine (l6In_b i 0 (n - 1) true _ h2).mono ?_); rintro _ _ ⟨rfl, rfl⟩)
        (go_wp2_with fail; (with_reducible refine (l1Digest_b leaf false _ h3).mono ?_); rintro _ _ ⟨rfl, rfl⟩)
        go_wp2_with fail
        go_ret
        exact ⟨retB HF.out.symm, rfl⟩
      · cases h4 : digs l
        · have HF : Hid (b = false) := HB.out.symm.trans (tcheck_no (by unfold tfront; rw [h1, h2, h3, h4]; rfl))
          go_enter Try.func10, Try.ntmps10
          (go_wp2_with fail; (with_reducible refine (l6In_b n 1 16 true _ h1).mono ?_); rintro _ _ ⟨rfl, rfl⟩)
          (go_wp2_with fail; (with_reducible refine (l6In_b i 0 (n - 1) true _ h2).mono ?_); rintro _ _ ⟨rfl, rfl⟩)
          (go_wp2_with fail; (with_reducible refine (l1Digest_b leaf true _ h3).mono ?_); rintro _ _ ⟨rfl, rfl⟩)
          (go_wp2_with fail; (with_reducible refine (l2Digests_b _ l _ _ false rr hn h4).mono ?_); rintro _ _ ⟨rfl, rfl⟩)
          go_wp2_with fail
          go_ret
          exact ⟨retB HF.out.symm, rfl⟩
        · obtain ⟨m, rfl⟩ : ∃ m : Nat, i = (m : Int) := ⟨i.toNat, by omega⟩
          obtain ⟨N, rfl⟩ : ∃ N : Nat, n = (N : Int) := ⟨n.toNat, by omega⟩
          have hfr : tfront (N : Int) (m : Int) leaf l = true := by unfold tfront; rw [h1, h2, h3, h4]; rfl
          go_enter Try.func10, Try.ntmps10
          (go_wp2_with fail; (with_reducible refine (l6In_b (N : Int) 1 16 true _ h1).mono ?_); rintro _ _ ⟨rfl, rfl⟩)
          (go_wp2_with fail; (with_reducible refine (l6In_b (m : Int) 0 ((N : Int) - 1) true _ h2).mono ?_); rintro _ _ ⟨rfl, rfl⟩)
          (go_wp2_with fail; (with_reducible refine (l1Digest_b leaf true _ h3).mono ?_); rintro _ _ ⟨rfl, rfl⟩)
          (go_wp2_with fail; (with_reducible refine (l2Digests_b _ l _ _ true rr hn h4).mono ?_); rintro _ _ ⟨rfl, rfl⟩)
          (go_wp2_with fail; (with_reducible refine (l2Check_b d leaf N m _ l _ b rr hn hfr h1 h2 h3 h4 HB.out).mono ?_); rintro _ _ ⟨rfl, rfl⟩)
          go_wp2_with fail
          go_ret
          exact ⟨rfl, rfl⟩
end Go.Proofs.Ytnhpilipkeddiaa
