/- The walk of the reference's TreeProof. -/
import Derived.Test.YtnhpilipkeddiaaProof
namespace Go.Proofs.Ytnhpilipkeddiaa
set_option linter.unusedVariables false
open Go.RowKit

theorem tr_chain (n : Nat) (hn : n ≤ 16) {j : Nat} {t : Nat × Nat} (h : (tr 0 n)[j]? = some t) : t.2 = ht t.1 n ∧ (j + 1 < (tr 0 n).length → (tr 0 n)[j + 1]? = some (t.1 + 2 ^ t.2, ht (t.1 + 2 ^ t.2) n)) := by
  have T : ∀ n : Fin 17, ∀ j : Fin 5, ((tr 0 n.1)[j.1]?).all (fun t => t.2 == ht t.1 n.1 && (!(decide (j.1 + 1 < (tr 0 n.1).length)) || (tr 0 n.1)[j.1 + 1]? == some (t.1 + 2 ^ t.2, ht (t.1 + 2 ^ t.2) n.1))) = true := by decide +kernel
  have hl : ∀ n : Fin 17, (tr 0 n.1).length ≤ 5 := by decide +kernel
  have hj : j < (tr 0 n).length := by
    rcases Nat.lt_or_ge j (tr 0 n).length with h1 | h1
    · exact h1
    · rw [List.getElem?_eq_none h1] at h; cases h
  have h5 := hl ⟨n, by omega⟩
  have h6 := T ⟨n, by omega⟩ ⟨j, by simp at h5; omega⟩
  simp only [h, Option.all_some, Bool.and_eq_true, beq_iff_eq, Bool.or_eq_true, Bool.not_eq_true', decide_eq_false_iff_not] at h6
  exact ⟨h6.1, fun hlt => h6.2.resolve_left (fun hh => hh hlt)⟩
theorem tr_first (n : Nat) (hn : n ≤ 16) (h : 0 < (tr 0 n).length) : (tr 0 n)[0]? = some (0, ht 0 n) := by
  have T : ∀ n : Fin 17, 0 < (tr 0 n.1).length → (tr 0 n.1)[0]? = some (0, ht 0 n.1) := by decide +kernel
  exact T ⟨n, by omega⟩ h
theorem szI_pow (a n : Nat) : szI a n = ((2 ^ ht a n : Nat) : Int) := rfl
set_option maxHeartbeats 4000000 in
theorem l2Peak_any (n i k a h : Nat) (w : World) (A : At n i k a h) (hn : n ≤ 16) :
    Calls Try.prog 38 #[.int .i64 (n : Int), .int .i64 (i : Int)] w fun e w' => e = .returned (.tuple #[.int .i64 (a : Int), .int .i64 ((2 ^ h : Nat) : Int)]) ∧ w = w' := by
  have HA := hid' A
  have k1 := A.lt
  have hin : i < n := Nat.lt_of_lt_of_le A.hi A.en
  clear A
  go_enter Try.func38, Try.ntmps38
  go_wp2_with fail
  go_loop [6] (fun x => ∃ j c : Nat, j ≤ k ∧ c ≤ 16 ∧ x = .int .i64 c ∧ Hid ((tr 0 n)[j]? = some (c, ht c n))) (fun x => 17 - (intOf x).toNat)
  case atStart => exact ⟨0, 0, Nat.zero_le _, by omega, rfl, tr_first n hn (by omega)⟩
  case round =>
    obtain ⟨j, c, hj, hc16, rfl, hget⟩ := hrel
    have hend := tr_in 0 n (by omega) hn (List.mem_of_getElem? hget.out)
    have hpos : 0 < (2 : Nat) ^ ht c n := Nat.pow_pos (by decide)
    obtain ⟨z, hz⟩ : ∃ z : Nat, z = 2 ^ ht c n := ⟨_, rfl⟩
    have HZ : Hid (szI c n = (z : Int)) := by unfold Hid; rw [szI_pow, hz]
    by_cases hjk : j = k
    · have hg := HA.out.get
      rw [← hjk, hget.out] at hg
      simp only [Option.some.injEq, Prod.mk.injEq] at hg
      obtain ⟨hca, hh⟩ := hg
      have hlt : i < c + z := by rw [hz, hh, hca]; exact HA.out.hi
      have hle : c ≤ i := by rw [hca]; exact HA.out.lo
      have HF : Hid ((a : Int) = (c : Int) ∧ ((2 ^ h : Nat) : Int) = (z : Int)) := ⟨by rw [hca], by rw [hz, hh]⟩
      simp only at hend
      rw [← hz] at hend hpos
      clear hca hh hjk hz
      (go_wp2_with fail; (with_reducible refine (l2Size_any c n _ hc16 hn).mono ?_); rintro _ _ ⟨rfl, rfl⟩)
      rw [HZ.out]
      go_wp2_with fail
      (with_reducible refine (l2Size_any c n _ hc16 hn).mono ?_)
      rintro _ _ ⟨rfl, rfl⟩
      rw [HZ.out]
      go_wp2_with fail
      go_ret2
      exact ⟨by rw [HF.out.1, HF.out.2]; rfl, rfl⟩
    · have hge : c + z ≤ i := by rw [hz]; exact HA.out.before j (by omega) _ hget.out
      have hnx := (tr_chain n hn hget.out).2 (by omega)
      have HN : Hid ((tr 0 n)[j + 1]? = some (c + z, ht (c + z) n)) := by unfold Hid; rw [hz]; exact hnx
      simp only at hend
      rw [← hz] at hend hpos
      have hj1 : j + 1 ≤ k := by omega
      clear hjk hz hnx
      (go_wp2_with fail; (with_reducible refine (l2Size_any c n _ hc16 hn).mono ?_); rintro _ _ ⟨rfl, rfl⟩)
      rw [HZ.out]
      go_wp2_with fail
      (with_reducible refine (l2Size_any c n _ hc16 hn).mono ?_)
      rintro _ _ ⟨rfl, rfl⟩
      rw [HZ.out]
      go_wp2_with fail
      go_round
      case rel => exact ⟨j + 1, c + z, by omega, by omega, by go_num, HN⟩
      case measure => simp [intOf]; omega
theorem rv_part {w : World} {B b off cap n r z : Nat} {L : List Int} (h : RV w B (.slice (some ⟨b, off, none⟩) n cap) (L.map (Value.int .i64))) (hr : r + z ≤ L.length) : RV w B (.slice (some ⟨b, off + r, none⟩) z (cap - r)) (((L.drop r).take z).map (Value.int .i64)) := by
  have R1 := rv_drop (k := r) h (by rw [List.length_map]; omega) (rfl : cap - r = cap - r)
  have R2 := rv_take (k := z) R1 (by rw [List.length_drop, List.length_map]; omega)
  rwa [← List.map_drop, ← List.map_take] at R2
theorem part_len {L : List Int} {r z : Nat} (hr : r + z ≤ L.length) : ((L.drop r).take z).length = z := by rw [List.length_take, List.length_drop]; omega
theorem part_root {L : List Int} {r h : Nat} : rt pr (lf ((L.drop r).take (2 ^ h))) h 0 = rt pr (lf L) h r := rt_congr _ _ _ _ _ _ fun i hi => by rw [Nat.zero_add, take_drop_lf hi]
set_option maxHeartbeats 8000000 in
set_option maxRecDepth 100000 in
theorem sTreeProof_any (v : Value) (L : List Int) (i : Int) (w : World) (h : RV w w.heap.size v (L.map (Value.int .i64))) (hn : L.length ≤ 1048576) :
    Calls Try.prog 14 #[v, .int .i64 i] w (NewRow w 3 ((tproof L i).map (Value.int .i64))) := by
  have rr := h
  obtain ⟨A, cap, rfl, hl, hm, hc⟩ := h
  rw [List.length_map] at rr hl hc ⊢
  unfold maxLen at hm
  have ra := fun o => rr.below (bnew w o) (Nat.le_refl _)
  cases hb : leavesB L
  · have HP : Hid (tproof L i = []) := tproof_no fun hh => by rw [hb] at hh; cases hh.1
    rw [HP.out]
    clear hc
    go_enter Try.func14, Try.ntmps14
    (go_wp2_with fail; (with_reducible refine (l2Leaves_b _ L _ _ false (ra _) hn hb).mono ?_); rintro _ _ ⟨rfl, rfl⟩)
    go_wp2_with fail
    go_ret
    exact newrow_of (own_empty (Nat.le_refl _)) (bnew _ _)
  · obtain ⟨h16, hd⟩ := leavesB_len hb
    cases hin : inB i 0 ((L.length : Int) - 1)
    · have HP : Hid (tproof L i = []) := tproof_no fun hh => by rcases inB_false.1 hin with h1 | h1 <;> omega
      rw [HP.out]
      clear hc
      go_enter Try.func14, Try.ntmps14
      (go_wp2_with fail; (with_reducible refine (l2Leaves_b _ L _ _ true (ra _) hn hb).mono ?_); rintro _ _ ⟨rfl, rfl⟩)
      (go_wp2_with fail; (with_reducible refine (l6In_b i 0 ((L.length : Int) - 1) false _ hin).mono ?_); rintro _ _ ⟨rfl, rfl⟩)
      go_wp2_with fail
      go_ret
      exact newrow_of (own_empty (Nat.le_refl _)) (bnew _ _)
    · obtain ⟨i0, i1⟩ := inB_true.1 hin
      obtain ⟨m, rfl⟩ : ∃ m : Nat, i = (m : Int) := ⟨i.toNat, by omega⟩
      have hmn : m < L.length := by omega
      obtain ⟨k, a, ht', AT⟩ := at_ok L.length m h16 hmn
      have HP : Hid (tproof L (m : Int) = sibsOf L m ht' ++ rts pr (lf L) ((tr 0 L.length).eraseIdx k)) := (tproof_yes hb hmn).trans (AT.proofOf pr (lf L))
      rw [HP.out]
      obtain ⟨i0', hii, hz0, hz1, hz2⟩ := info_parts infoInt
      have HAT := hid' AT
      have kl := AT.lt
      have k5 := AT.len
      have kh := AT.h4
      obtain ⟨b, off, rfl, hbB, _⟩ := hc (by omega)
      clear HP AT hc
      go_enter Try.func14, Try.ntmps14
      (go_wp2_with fail; (with_reducible refine (l2Leaves_b _ L _ _ true (ra _) hn hb).mono ?_); rintro _ _ ⟨rfl, rfl⟩)
      (go_wp2_with fail; (with_reducible refine (l6In_b (m : Int) 0 ((L.length : Int) - 1) true _ hin).mono ?_); rintro _ _ ⟨rfl, rfl⟩)
      (go_wp2_with fail; (with_reducible refine (l2Peak_any L.length m k a ht' _ HAT.out h16).mono ?_); rintro _ _ ⟨rfl, rfl⟩)
      obtain ⟨y, hy⟩ : ∃ y : Nat, y = 2 ^ ht' := ⟨_, rfl⟩
      rw [← hy]
      have y2 : y ≤ 16 := by rw [hy]; exact Nat.pow_le_pow_right (n := 2) (by decide) kh
      have HY := hid' hy
      clear hy
      go_wp2_with fail
      go_loopw [5, 9, 10] (fun x s u wr => ∃ j : Nat, j ≤ ht' ∧ s = .int .i64 ((2 ^ j : Nat) : Int) ∧ OW wr w.heap.size 3 x ((sibsOf L m j).map (Value.int .i64)) ∧ Below w.heap.size w wr) (fun _ s _ _ => 32 - (intOf s).toNat)
      case atStart => exact ⟨0, Nat.zero_le _, rfl, own_empty (Nat.le_refl _), bnew w _⟩
      case round =>
        obtain ⟨j, hj, rfl, hown, hbel⟩ := hrel
        have hp := @pow_lt j ht'
        have b1 : 2 ^ j ≤ 16 := Nat.pow_le_pow_right (n := 2) (by decide) (Nat.le_trans hj kh)
        have b3 : 1 ≤ 2 ^ j := Nat.pow_pos (by decide)
        rw [← HY.out] at hp
        by_cases hlt : j < ht'
        · have hp' := hp.2 hlt
          obtain ⟨u1, u2, u3, u4, u5, u6⟩ := sib_words m j (by omega) (by omega)
          have hs := HAT.out.sibs j hlt
          obtain ⟨z, hz⟩ : ∃ z : Nat, z = 2 ^ j := ⟨_, rfl⟩
          obtain ⟨d, hdv⟩ : ∃ d : Nat, d = m / 2 ^ j := ⟨_, rfl⟩
          obtain ⟨r, hr⟩ : ∃ r : Nat, r = sib m j := ⟨_, rfl⟩
          have HZ := hid' hz
          have HR := hid' hr
          rw [← hz] at b1 b3 hp' hs ⊢
          have hzne : ((z : Int) == 0) = false := beq_eq_false_iff_ne.2 (by omega)
          rw [← hdv, ← hz] at u2 u3 u4 u6
          rw [← hr] at hs u3 u4
          have e1 : (m : Int).tdiv (z : Int) = (d : Int) := by rw [Int.tdiv_eq_ediv_of_nonneg (by omega), hdv, hz]; rfl
          have e1' : (m : Int) / (z : Int) = (d : Int) := by rw [hdv, hz]; rfl
          have hdl : d ≤ 16 := by rw [hdv]; exact Nat.le_trans (Nat.div_le_self _ _) (by omega)
          obtain ⟨c, hcz⟩ : ∃ c : Nat, c = d * z := ⟨_, rfl⟩
          rw [← hcz] at u2 u3 u4 u6
          have e2 : (d : Int) * (z : Int) = (c : Int) := by rw [hcz]; exact (Int.natCast_mul d z).symm
          have e3 : (c : Int).tdiv (z : Int) = (d : Int) := by rw [Int.tdiv_eq_ediv_of_nonneg (by omega), ← u2]; rfl
          have e3' : (c : Int) / (z : Int) = (d : Int) := by rw [← u2]; rfl
          have hrw := rr.below hbel (Nat.le_refl _)
          have hlen : ((sibsOf L m j).map (Value.int .i64)).length ≤ 64 := by unfold sibsOf; rw [List.length_map, List.length_map, List.length_range]; omega
          have HW := hid' (sibsOf_succ L m j)
          have RP := rv_part hrw hs
          have HPL := hid' (part_len hs)
          have HPR : Hid (rt pr (lf ((L.drop r).take z)) j 0 = rt pr (lf L) j (sib m j)) := by unfold Hid; rw [hz, part_root, hr]
          have hcap1 : r < cap := by omega
          have hcap2 : r + z ≤ cap := by omega
          have hpw : ((2 ^ (j + 1) : Nat) : Int) = 2 * (z : Int) := by rw [Nat.pow_succ, ← HZ.out, Nat.mul_comm]; exact Int.natCast_mul 2 z
          have HPW := hid' hpw
          have hr0 : (0 : Int) ≤ (r : Int) := by omega
          have hrc : (r : Int) ≤ (cap : Int) := by omega
          clear u2 u5 hz hdv hr hcz hp hpw
          by_cases hpar : d % 2 = 0
          · have e5 : (d : Int).tmod 2 = 0 := by rw [Int.tmod_eq_emod_of_nonneg (by omega)]; omega
            have e5' : (d : Int) % 2 = 0 := by omega
            have e6 : (c : Int) + (z : Int) = (r : Int) := by have := u3 hpar; omega
            clear u3 u4 hpar
            go_wp2_with fail
            (with_reducible refine (l2Root_any w.heap.size j b (off + r) (cap - r) z ((L.drop r).take z) _ RP (digs_take (digs_drop hd r) z) (by omega) (HPL.out.trans HZ.out) HZ.out).mono ?_)
            rintro _ _ ⟨rfl, q, rfl⟩
            rw [HPR.out]
            have hownm := hown.drewN q
            have hbm : Below w.heap.size w (wr.drewN q) := below_drewN hbel q
            go_wp2_with (at_builtin; refine wpList_push _ rfl _ _ 22 rfl w.heap.size 3 i0' (.int .i64 0) 8 Try.underlying22 hii hz0 hz1 hz2 rfl _ _ rfl hownm _ rfl rfl (by omega) (by decide) hbm.size ?_; intro v' w3 hown3 hbel3)
            go_roundw
            case rel => exact ⟨j + 1, by omega, by rw [HPW.out], by rw [HW.out, List.map_append]; exact hown3, hbm.trans hbel3⟩
            case measure => simp [intOf]; omega
          · have e5 : (d : Int).tmod 2 = 1 := by rw [Int.tmod_eq_emod_of_nonneg (by omega)]; omega
            have e5' : (d : Int) % 2 = 1 := by omega
            have e6 : (c : Int) - (z : Int) = (r : Int) := by have := u4 (by omega); omega
            clear u3 u4 hpar
            go_wp2_with fail
            (with_reducible refine (l2Root_any w.heap.size j b (off + r) (cap - r) z ((L.drop r).take z) _ RP (digs_take (digs_drop hd r) z) (by omega) (HPL.out.trans HZ.out) HZ.out).mono ?_)
            rintro _ _ ⟨rfl, q, rfl⟩
            rw [HPR.out]
            have hownm := hown.drewN q
            have hbm : Below w.heap.size w (wr.drewN q) := below_drewN hbel q
            go_wp2_with (at_builtin; refine wpList_push _ rfl _ _ 22 rfl w.heap.size 3 i0' (.int .i64 0) 8 Try.underlying22 hii hz0 hz1 hz2 rfl _ _ rfl hownm _ rfl rfl (by omega) (by decide) hbm.size ?_; intro v' w3 hown3 hbel3)
            go_roundw
            case rel => exact ⟨j + 1, by omega, by rw [HPW.out], by rw [HW.out, List.map_append]; exact hown3, hbm.trans hbel3⟩
            case measure => simp [intOf]; omega
        · have hp' : ¬ (2 ^ j < y) := fun hh => hlt (hp.1 hh)
          have hjh : j = ht' := by omega
          obtain ⟨z, hz⟩ : ∃ z : Nat, z = 2 ^ j := ⟨_, rfl⟩
          rw [← hz] at b1 b3 hp' ⊢
          rw [hjh] at hown
          clear hz hp hjh hlt
          go_wp2_with fail
          obtain ⟨w3, hw3⟩ : ∃ w3, w3 = wr := ⟨_, rfl⟩
          subst hw3
          go_loopw [5, 11] (fun v x wr => ∃ (c f : Nat) (D : List (Nat × Nat)), c ≤ 16 ∧ L.length ≤ c + f ∧ D.length + f ≤ 16 ∧ x = .int .i64 c ∧ Hid (D ++ trF f c L.length = tr 0 L.length) ∧ OW wr w.heap.size 3 v ((sibsOf L m ht' ++ rts pr (lf L) (D.filter fun t => !(t.1 == a))).map (Value.int .i64)) ∧ Below w.heap.size w wr) (fun _ x _ => 16 - (intOf x).toNat)
          case atStart => exact ⟨0, 16, [], by omega, by omega, by simp, rfl, rfl, by simp [rts]; exact hown, hbel⟩
          case round =>
            obtain ⟨c, f, D, hcc, hf, hDf, rfl, hD, hown2, hbel2⟩ := hrel
            by_cases hlt : c < L.length
            · have hend := ht_end c L.length hlt h16
              have hht := ht_le c L.length hcc h16
              have hpos : 0 < (2 : Nat) ^ ht c L.length := Nat.pow_pos (by decide)
              obtain ⟨s, hs⟩ : ∃ s : Nat, s = 2 ^ ht c L.length := ⟨_, rfl⟩
              rw [← hs] at hend hpos
              have HSZ : Hid (szI c L.length = (s : Int)) := by unfold Hid szI; rw [hs]
              have HS := hid' hs
              have HT : Hid ((D ++ [(c, ht c L.length)]) ++ trF (f - 1) (c + s) L.length = tr 0 L.length) := by
                have h := hD.out
                rw [show f = (f - 1) + 1 by omega, trF_yes hlt] at h
                unfold Hid; rw [← h, List.append_assoc, hs]; rfl
              have hrw := rr.below hbel2 (Nat.le_refl _)
              have RP := rv_part hrw hend
              have HPL := hid' (part_len hend)
              have HPR : Hid (rt pr (lf ((L.drop c).take s)) (ht c L.length) 0 = rt pr (lf L) (ht c L.length) c) := by unfold Hid; rw [hs, part_root]
              have hcap1 : c < cap := by omega
              have hcap2 : c + s ≤ cap := by omega
              have hlen : ((sibsOf L m ht' ++ rts pr (lf L) (D.filter fun t => !(t.1 == a))).map (Value.int .i64)).length ≤ 64 := by
                have h1 := List.length_filter_le (fun t : Nat × Nat => !(t.1 == a)) D
                unfold sibsOf rts; simp only [List.length_map, List.length_append, List.length_range]; omega
              clear hs
              by_cases hca : c = a
              · have hn1 : ((c : Int) != (a : Int)) = false := by rw [hca]; simp
                have hn2 : ((c : Int) == (a : Int)) = true := by rw [hca]; simp
                have HE : Hid ((D ++ [(c, ht c L.length)]).filter (fun t => !(t.1 == a)) = D.filter fun t => !(t.1 == a)) := by unfold Hid; rw [List.filter_append, hca]; simp
                clear hca
                (go_wp2_with fail; (with_reducible refine (l2Size_any c L.length _ hcc h16).mono ?_); rintro _ _ ⟨rfl, rfl⟩)
                rw [HSZ.out]
                go_wp2_with fail
                go_roundw
                case rel => exact ⟨c + s, f - 1, D ++ [(c, ht c L.length)], by omega, by omega, by simp; omega, by go_num, HT, by rw [HE.out]; exact hown2, hbel2⟩
                case measure => simp [intOf]; omega
              · have hn1 : ((c : Int) != (a : Int)) = true := bne_iff_ne.2 (by omega)
                have hn2 : ((c : Int) == (a : Int)) = false := beq_eq_false_iff_ne.2 (by omega)
                have HE : Hid ((D ++ [(c, ht c L.length)]).filter (fun t => !(t.1 == a)) = (D.filter fun t => !(t.1 == a)) ++ [(c, ht c L.length)]) := by unfold Hid; rw [List.filter_append]; simp [hca]
                clear hca
                (go_wp2_with fail; (with_reducible refine (l2Size_any c L.length _ hcc h16).mono ?_); rintro _ _ ⟨rfl, rfl⟩)
                rw [HSZ.out]
                go_wp2_with fail
                (with_reducible refine (l2Root_any w.heap.size (ht c L.length) b (off + c) (cap - c) s ((L.drop c).take s) _ RP (digs_take (digs_drop hd c) s) hht (HPL.out.trans HS.out) HS.out).mono ?_)
                rintro _ _ ⟨rfl, q, rfl⟩
                rw [HPR.out]
                have hownm := hown2.drewN q
                have hbm : Below w.heap.size w (wr.drewN q) := below_drewN hbel2 q
                go_wp2_with (at_builtin; refine wpList_push _ rfl _ _ 22 rfl w.heap.size 3 i0' (.int .i64 0) 8 Try.underlying22 hii hz0 hz1 hz2 rfl _ _ rfl hownm _ rfl rfl (by omega) (by decide) hbm.size ?_; intro v' w3 hown3 hbel3)
                (with_reducible refine (l2Size_any c L.length _ hcc h16).mono ?_)
                rintro _ _ ⟨rfl, rfl⟩
                rw [HSZ.out]
                go_wp2_with fail
                go_roundw
                case rel => exact ⟨c + s, f - 1, D ++ [(c, ht c L.length)], by omega, by omega, by simp; omega, by go_num, HT, by rw [HE.out, rts_app, ← List.append_assoc, List.map_append]; exact hown3, hbm.trans hbel3⟩
                case measure => simp [intOf]; omega
            · have HF : Hid (D = tr 0 L.length) := by have := hD.out; rw [trF_no (by omega), List.append_nil] at this; exact this
              rw [HF.out, HAT.out.other] at hown2
              go_wp2_with fail
              go_ret
              exact newrow_of hown2 hbel2
end Go.Proofs.Ytnhpilipkeddiaa
