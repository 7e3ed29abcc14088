/- The walks of peaks and digests of trees. -/
import Derived.Test.YtpbdehncmincaaaTrees
namespace Go.Proofs.Ytpbdehncmincaaa
set_option linter.unusedVariables false
open Go.RowKit

theorem newrow_of2 {w w' : World} {e : TypeId} {v : Value} {L M : List Value} (h : OW w' w.heap.size e v M) (hb : Below w.heap.size w w') (hm : M = L) : NewRow w e L (.returned v) w' := ⟨v, rfl, Row.of (by rw [← hm]; exact h), hb⟩
theorem ot_form {w : World} {base : Nat} {v : Value} {D : List (Nat × Nat)} (h : OT w base v D) : ∃ A cap, v = .slice A D.length cap ∧ D.length ≤ cap ∧
    (0 < D.length → ∃ g, A = some ⟨g, 0, none⟩ ∧ base ≤ g ∧ g < w.heap.size ∧ ∀ k t, D[k]? = some t → w.cell? ⟨g, k * 2, none⟩ = some (.int .i64 (t.1 : Int)) ∧ w.cell? ⟨g, k * 2 + 1, none⟩ = some (.int .i64 ((2 ^ t.2 : Nat) : Int))) := by
  have hh := h
  unfold OT at h
  rcases h.2 with ⟨rfl, h0⟩ | ⟨g, cap, cur, hv, hb, hg, hnc, _⟩
  · exact ⟨none, 0, by rw [h0], by omega, fun h1 => by omega⟩
  · subst hv
    refine ⟨_, cap, rfl, hnc, fun _ => ⟨g, rfl, hb, ?_, fun k t ht => ?_⟩⟩
    · rcases Nat.lt_or_ge g w.heap.size with hlt | hge
      · exact hlt
      · rw [Array.getElem?_eq_none hge] at hg; cases hg
    · have hk : k < D.length := by
        rcases Nat.lt_or_ge k D.length with h1 | h1
        · exact h1
        · rw [List.getElem?_eq_none h1] at ht; cases ht
      obtain ⟨f0, f1⟩ := flatT_at D k t ht
      exact ⟨(h.cellAt _ (by omega)).trans f0, (h.cellAt _ (by omega)).trans f1⟩
theorem OT.next {w w' : World} {base B : Nat} {v : Value} {D : List (Nat × Nat)} (h : OT w base v D) (hb : Below B w w') (hB : w.heap.size ≤ B) : OT w' base v D :=
  own_same h fun k hk => hb.block k (Nat.lt_of_lt_of_le (World.ownsRow.lt h k hk).2 hB)
theorem rts_take {α : Type} (p : α → α → α) (x : Nat → α) {D : List (Nat × Nat)} {k : Nat} {t : Nat × Nat} (h : D[k]? = some t) : rts p x (D.take (k + 1)) = rts p x (D.take k) ++ [rt p x t.2 t.1] := by
  have hlt : k < D.length := by
    rcases Nat.lt_or_ge k D.length with h1 | h1
    · exact h1
    · rw [List.getElem?_eq_none h1] at h; cases h
  rw [List.getElem?_eq_getElem hlt] at h
  simp only [Option.some.injEq] at h
  rw [List.take_succ_eq_append_getElem hlt, h]
  unfold rts; rw [List.map_append]; rfl

set_option maxHeartbeats 4000000 in
theorem roots_any (vt v : Value) (D : List (Nat × Nat)) (L : List Int) (base B : Nat) (w : World) (ht : OT w base vt D) (hr : RV w B v (L.map (Value.int .i64))) (hB : B ≤ w.heap.size) (hd : digs L = true) (h16 : L.length ≤ 16)
    (hD : ∀ (k : Nat) (t : Nat × Nat), D[k]? = some t → t.1 + 2 ^ t.2 ≤ L.length) (hDn : D.length ≤ 64) :
    Calls Try.prog 33 #[vt, v] w (NewRow w 3 ((rts pr (lf L) D).map (Value.int .i64))) := by
  obtain ⟨A, cap, rfl, hl, hc⟩ := ot_form ht
  obtain ⟨i0, hi, hz0, hz1, hz2⟩ := info_parts infoInt
  have HD := hid' hD
  clear hD ht
  go_enter Try.func33, Try.ntmps33
  go_wp2_with fail
  go_loopw [5, 11] (fun x i wr => ∃ k : Nat, k ≤ D.length ∧ i = .int .i64 k ∧ OW wr w.heap.size 3 x ((rts pr (lf L) (D.take k)).map (Value.int .i64)) ∧ Below w.heap.size w wr) (fun _ i _ => D.length - (intOf i).toNat)
  case atStart => exact ⟨0, Nat.zero_le _, rfl, own_empty (Nat.le_refl _), bnew w _⟩
  case round =>
    obtain ⟨k, hk, rfl, hown, hbel⟩ := hrel
    by_cases hlt : k < D.length
    · obtain ⟨g, rfl, hgb, hgs, hcell⟩ := hc (by omega)
      obtain ⟨t, htk⟩ : ∃ t, D[k]? = some t := ⟨D[k], List.getElem?_eq_getElem hlt⟩
      obtain ⟨q0, q1⟩ := hcell k t htk
      have hle := HD.out k t htk
      have hcx0 : wr.cell? ⟨g, k * 2, none⟩ = some (.int .i64 (t.1 : Int)) := (hbel.cell (p := ⟨g, k * 2, none⟩) hgs).trans q0
      have hcx1 : wr.cell? ⟨g, k * 2 + 1, none⟩ = some (.int .i64 ((2 ^ t.2 : Nat) : Int)) := (hbel.cell (p := ⟨g, k * 2 + 1, none⟩) hgs).trans q1
      have HT := hid' (rts_take pr (lf L) htk)
      obtain ⟨z, hz⟩ : ∃ z : Int, z = ((2 ^ t.2 : Nat) : Int) := ⟨_, rfl⟩
      rw [← hz] at hcx1
      obtain ⟨y, hy⟩ : ∃ y : Int, y = (t.1 : Int) := ⟨_, rfl⟩
      rw [← hy] at hcx0
      have HZ := hid' hz
      have HY := hid' hy
      have hrw := hr.below hbel hB
      have hlen : ((rts pr (lf L) (D.take k)).map (Value.int .i64)).length ≤ 64 := by unfold rts; rw [List.length_map, List.length_map, List.length_take]; omega
      clear hcell htk q0 q1 hz hy hc
      go_wp2_with fail
      (with_reducible refine (root_any L v B hd h16 t.2 t.1 y z _ (hrw.below (bnew wr _) (Nat.le_trans hB hbel.size)) (by simp; have := hbel.size; omega) hle HY.out HZ.out).mono ?_)
      rintro _ w2 ⟨rfl, hb2⟩
      have hb3 := balloc hbel (.cells #[.int .i64 y, .int .i64 z] 49)
      have hb4 := bstep hb3 hb2
      have hown2 := (OW.alloc hown (.cells #[.int .i64 y, .int .i64 z] 49)).next hb2 (Nat.le_refl _)
      go_wp2_with (at_builtin; refine wpList_push _ rfl _ _ 22 rfl w.heap.size 3 i0 (.int .i64 0) 8 Try.underlying22 hi hz0 hz1 hz2 rfl _ _ rfl hown2 _ rfl rfl (by omega) (by decide) hb4.size ?_; intro v' w3 hown3 hbel3)
      go_roundw
      case rel => exact ⟨k + 1, by omega, by go_num, by rw [HT.out, List.map_append]; exact hown3, hb4.trans hbel3⟩
      case measure => simp [intOf]; omega
    · have hkl : D.take k = D := List.take_of_length_le (by omega)
      rw [hkl] at hown
      clear hc hkl
      go_wp2_with fail
      go_ret
      exact newrow_of hown hbel

theorem take_drop_lf {L : List Int} {c s i : Nat} (h : i < s) : lf ((L.drop c).take s) i = lf L (c + i) := by rw [lf_take h, lf_drop]
set_option maxHeartbeats 4000000 in
theorem l2Cover_any (v : Value) (L : List Int) (B a : Nat) (w : World) (hr : RV w B v (L.map (Value.int .i64))) (hB : B ≤ w.heap.size) (hd : digs L = true) (h16 : L.length ≤ 16) (ha : a ≤ 16) :
    Calls Try.prog 30 #[v, .int .i64 (a : Int)] w (NewRow w 3 ((rts pr (lf L) (tr a L.length)).map (Value.int .i64))) := by
  have rr := hr
  obtain ⟨A, cap, rfl, hl, hm, hc⟩ := hr
  rw [List.length_map] at rr hl hc ⊢
  obtain ⟨i0, hi, hz0, hz1, hz2⟩ := info_parts infoInt
  unfold maxLen at hm
  go_enter Try.func30, Try.ntmps30
  go_wp2_with fail
  go_loopw [5, 6] (fun v x wr => ∃ (c f : Nat) (D : List (Nat × Nat)), c ≤ 16 ∧ L.length ≤ c + f ∧ D.length + f ≤ 16 ∧ x = .int .i64 c ∧ Hid (D ++ trF f c L.length = tr a L.length) ∧ OW wr w.heap.size 3 v ((rts pr (lf L) D).map (Value.int .i64)) ∧ Below w.heap.size w wr) (fun _ x _ => 16 - (intOf x).toNat)
  case atStart => exact ⟨a, 16, [], ha, by omega, by simp, rfl, rfl, own_empty (Nat.le_refl _), bnew w _⟩
  case round =>
    obtain ⟨c, f, D, hcc, hf, hDf, rfl, hD, hown, hbel⟩ := hrel
    by_cases hlt : c < L.length
    · obtain ⟨b, off, rfl, hbB, _⟩ := hc (by omega)
      have hend := ht_end c L.length hlt h16
      have hht := ht_le c L.length hcc h16
      have hpos : 0 < (2 : Nat) ^ ht c L.length := Nat.pow_pos (by decide)
      obtain ⟨s, hs⟩ : ∃ s : Nat, s = 2 ^ ht c L.length := ⟨_, rfl⟩
      rw [← hs] at hend hpos
      have HSZ : Hid (szI c L.length = (s : Int)) := by unfold Hid szI; rw [hs]
      have HS := hid' hs
      have HT : Hid ((D ++ [(c, ht c L.length)]) ++ trF (f - 1) (c + s) L.length = tr a L.length) := by
        have h := hD.out
        rw [show f = (f - 1) + 1 by omega, trF_yes hlt] at h
        unfold Hid; rw [← h, List.append_assoc, hs]; rfl
      have R1 := rv_drop (k := c) rr (by rw [List.length_map]; omega) (rfl : cap - c = cap - c)
      have R2 := rv_take (k := s) R1 (by rw [List.length_drop, List.length_map]; omega)
      rw [← List.map_drop, ← List.map_take] at R2
      have hMl : ((L.drop c).take s).length = s := by rw [List.length_take, List.length_drop]; omega
      have hroot : rt pr (lf ((L.drop c).take s)) (ht c L.length) 0 = rt pr (lf L) (ht c L.length) c := rt_congr _ _ _ _ _ _ fun i hi => by rw [Nat.zero_add, take_drop_lf (by omega)]
      have HR := hid' hroot
      have HM := hid' hMl
      have R3 := R2.below hbel hB
      have hlen : ((rts pr (lf L) D).map (Value.int .i64)).length ≤ 64 := by unfold rts; rw [List.length_map, List.length_map]; omega
      have hcap1 : c < cap := by omega
      have hcap2 : c + s ≤ cap := by omega
      clear hs R1 R2 hMl hroot hc
      (go_wp2_with fail; (with_reducible refine (l2Size_any c L.length _ hcc h16).mono ?_); rintro _ _ ⟨rfl, rfl⟩)
      rw [HSZ.out]
      go_wp2_with fail
      (with_reducible refine (l2Root_any B (ht c L.length) b (off + c) (cap - c) s ((L.drop c).take s) _ R3 (digs_take (digs_drop hd c) s) hht (HM.out.trans HS.out) HS.out).mono ?_)
      rintro _ _ ⟨rfl, m, rfl⟩
      rw [HR.out]
      have hownm := hown.drewN m
      have hbm : Below w.heap.size w (wr.drewN m) := below_drewN hbel m
      go_wp2_with (at_builtin; refine wpList_push _ rfl _ _ 22 rfl w.heap.size 3 i0 (.int .i64 0) 8 Try.underlying22 hi hz0 hz1 hz2 rfl _ _ rfl hownm _ rfl rfl (by omega) (by decide) hbm.size ?_; intro v' w3 hown3 hbel3)
      go_roundw
      case rel => exact ⟨c + s, f - 1, D ++ [(c, ht c L.length)], by omega, by omega, by simp; omega, by go_num, HT, by unfold rts at hown3 ⊢; rw [List.map_append, List.map_append]; exact hown3, hbm.trans hbel3⟩
      case measure => simp [intOf]; omega
    · have HF : Hid (D = tr a L.length) := by have := hD.out; rw [trF_no (by omega), List.append_nil] at this; exact this
      rw [HF.out] at hown
      clear hc
      go_wp2_with fail
      go_ret
      exact newrow_of hown hbel

theorem foldD_snoc {n x : Int} {L : List Int} {k : Nat} (h : L[k]? = some x) : foldD n (L.take (k + 1)) = pr (foldD n (L.take k)) x := by
  have hlt : k < L.length := by
    rcases Nat.lt_or_ge k L.length with h1 | h1
    · exact h1
    · rw [List.getElem?_eq_none h1] at h; cases h
  rw [List.getElem?_eq_getElem hlt] at h
  simp only [Option.some.injEq] at h
  rw [List.take_succ_eq_append_getElem hlt, h]
  unfold foldD; rw [List.foldl_append]; rfl
theorem foldD_dig : ∀ (L : List Int) (n : Int), digB n = true → digB (foldD n L) = true
  | [], _, h => h
  | a :: L, n, _ => foldD_dig L (pr n a) (pr_dig n a)

set_option maxHeartbeats 1000000 in
theorem digestOf_any (n : Int) (v : Value) (L : List Int) (B : Nat) (w : World) (h : RV w B v (L.map (Value.int .i64))) (hn : L.length ≤ 1048576) (hd : digs L = true) (h0 : digB n = true) :
    Calls Try.prog 40 #[.int .i64 n, v] w fun e w' => e = .returned (.int .i64 (foldD n L)) ∧ w = w' := by
  obtain ⟨A, cap, rfl, hl, hm, hc⟩ := h
  rw [List.length_map] at hl hc ⊢
  have HD := hid' hd
  have H0 := hid' h0
  clear hd h0
  go_enter Try.func40, Try.ntmps40
  go_wp2_with fail
  go_loop [0, 9] (fun x i => ∃ k : Nat, k ≤ L.length ∧ i = .int .i64 k ∧ x = .int .i64 (foldD n (L.take k))) (fun _ i => L.length - (intOf i).toNat)
  case atStart => exact ⟨0, Nat.zero_le _, rfl, rfl⟩
  case round =>
    obtain ⟨k, hk, rfl, rfl⟩ := hrel
    by_cases hlt : k < L.length
    · obtain ⟨b', off, rfl, hbB, hcell⟩ := hc (by omega)
      obtain ⟨x, hx, hxv⟩ := get_int hlt
      have hcx := hcell k _ hxv
      have HX := hid' hx
      have hdx := digs_get hx HD.out
      have HP := hid' (foldD_snoc (n := n) hx)
      have HQ := hid' (dpair_ok (foldD_dig (L.take k) n H0.out) hdx)
      obtain ⟨y, hy⟩ : ∃ y, foldD n (L.take k) = y := ⟨_, rfl⟩
      rw [hy] at HP HQ ⊢
      clear hcell hc hx hxv hdx hy
      (go_wp2_with fail; (with_reducible refine (iDigestPair_any y x _).mono ?_); rintro _ _ ⟨rfl, rfl⟩)
      rw [HQ.out]
      go_wp2_with fail
      go_round
      case rel => exact ⟨k + 1, by omega, by go_num, by rw [HP.out]⟩
      case measure => simp [intOf]; omega
    · have HF : Hid (foldD n (L.take k) = foldD n L) := by unfold Hid; rw [List.take_of_length_le (by omega)]
      rw [HF.out]
      clear hc
      go_wp2_with fail
      go_ret
      exact ⟨rfl, rfl⟩
set_option maxHeartbeats 1000000 in
theorem l2Fold_any (n : Int) (v : Value) (L : List Int) (B : Nat) (w : World) (h : RV w B v (L.map (Value.int .i64))) (hn : L.length ≤ 1048576) (hd : digs L = true) (h0 : digB n = true) :
    Calls Try.prog 37 #[.int .i64 n, v] w fun e w' => e = .returned (.int .i64 (foldD n L)) ∧ w = w' := by
  obtain ⟨A, cap, rfl, hl, hm, hc⟩ := h
  rw [List.length_map] at hl hc ⊢
  have HD := hid' hd
  have H0 := hid' h0
  clear hd h0
  go_enter Try.func37, Try.ntmps37
  go_wp2_with fail
  go_loop [5, 6] (fun x i => ∃ k : Nat, k ≤ L.length ∧ i = .int .i64 k ∧ x = .int .i64 (foldD n (L.take k))) (fun _ i => L.length - (intOf i).toNat)
  case atStart => exact ⟨0, Nat.zero_le _, rfl, rfl⟩
  case round =>
    obtain ⟨k, hk, rfl, rfl⟩ := hrel
    by_cases hlt : k < L.length
    · obtain ⟨b', off, rfl, hbB, hcell⟩ := hc (by omega)
      obtain ⟨x, hx, hxv⟩ := get_int hlt
      have hcx := hcell k _ hxv
      obtain ⟨d0, d1⟩ := digB_true.1 (digs_get hx HD.out)
      have HP := hid' (foldD_snoc (n := n) hx)
      obtain ⟨y0, y1⟩ := digB_true.1 (foldD_dig (L.take k) n H0.out)
      obtain ⟨y, hy⟩ : ∃ y, foldD n (L.take k) = y := ⟨_, rfl⟩
      rw [hy] at HP y0 y1 ⊢
      clear hcell hc hx hxv hy
      (go_wp2_with fail; (with_reducible refine (l1Pair_any y x _ y0 (by omega) d0 (by omega)).mono ?_); rintro _ _ ⟨rfl, rfl⟩)
      go_wp2_with fail
      go_round
      case rel => exact ⟨k + 1, by omega, by go_num, by rw [HP.out]⟩
      case measure => simp [intOf]; omega
    · have HF : Hid (foldD n (L.take k) = foldD n L) := by unfold Hid; rw [List.take_of_length_le (by omega)]
      rw [HF.out]
      clear hc
      go_wp2_with fail
      go_ret
      exact ⟨rfl, rfl⟩
end Go.Proofs.Ytpbdehncmincaaa
