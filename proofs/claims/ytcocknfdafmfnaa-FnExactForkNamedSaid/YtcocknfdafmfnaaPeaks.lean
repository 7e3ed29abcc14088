/- The walks of peaks and digests of trees. -/
import Derived.Test.YtcocknfdafmfnaaTrees
namespace Go.Proofs.Ytcocknfdafmfnaa
set_option linter.unusedVariables false
open Go.RowKit

theorem newrow_of2 {w w' : World} {e : TypeId} {v : Value} {L M : List Value} (h : OW w' w.heap.size e v M) (hb : Below w.heap.size w w') (hm : M = L) : NewRow w e L (.returned v) w' := ⟨v, rfl, Row.of (by rw [← hm]; exact h), hb⟩
theorem rts_take {α : Type} (p : α → α → α) (x : Nat → α) {D : List (Nat × Nat)} {k : Nat} {t : Nat × Nat} (h : D[k]? = some t) : rts p x (D.take (k + 1)) = rts p x (D.take k) ++ [rt p x t.2 t.1] := by
  have hlt : k < D.length := by
    rcases Nat.lt_or_ge k D.length with h1 | h1
    · exact h1
    · rw [List.getElem?_eq_none h1] at h; cases h
  rw [List.getElem?_eq_getElem hlt] at h
  simp only [Option.some.injEq] at h
  rw [List.take_succ_eq_append_getElem hlt, h]
  unfold rts; rw [List.map_append]; rfl


theorem take_drop_lf {L : List Int} {c s i : Nat} (h : i < s) : lf ((L.drop c).take s) i = lf L (c + i) := by rw [lf_take h, lf_drop]
set_option maxHeartbeats 4000000 in
theorem l2Cover_any (v : Value) (L : List Int) (B a : Nat) (w : World) (hr : RV w B v (L.map (Value.int .i64))) (hB : B ≤ w.heap.size) (hd : digs L = true) (h16 : L.length ≤ 16) (ha : a ≤ 16) :
    Calls Try.prog 64 #[v, .int .i64 (a : Int)] w (NewRow w 3 ((rts pr (lf L) (tr a L.length)).map (Value.int .i64))) := by
  have rr := hr
  obtain ⟨A, cap, rfl, hl, hm, hc⟩ := hr
  rw [List.length_map] at rr hl hc ⊢
  obtain ⟨i0, hi, hz0, hz1, hz2⟩ := info_parts infoInt
  unfold maxLen at hm
  go_enter Try.func64, Try.ntmps64
  go_wp2_with fail
  go_loopw [5, 6] (fun v x wr => ∃ (c f : Nat) (D : List (Nat × Nat)), c ≤ 16 ∧ L.length ≤ c + f ∧ D.length + f ≤ 16 ∧ x = .int .i64 c ∧ Hid (D ++ trF f c L.length = tr a L.length) ∧ OW wr w.heap.size 3 v ((rts pr (lf L) D).map (Value.int .i64)) ∧ Below w.heap.size w wr) (fun _ x _ => 16 - (intOf x).toNat)
  case atStart => exact ⟨a, 16, [], ha, by omega, by simp, rfl, rfl, own_empty (Nat.le_refl _), bnew w _⟩
  case round =>
    obtain ⟨c, f, D, hcc, hf, hDf, rfl, hD, hown, hbel⟩ := hrel
    by_cases hlt : c < L.length
    · obtain ⟨b, off, rfl, hbB, _⟩ := hc (by omega)
      have hend := ht_end c L.length hlt h16
      have hht := ht_le c L.length hcc h16
      have hpos : 0 < (2 : Nat) ^ ht c L.length := Nat.pow_pos (by decide)
      obtain ⟨s, hs⟩ : ∃ s : Nat, s = 2 ^ ht c L.length := ⟨_, rfl⟩
      rw [← hs] at hend hpos
      have HSZ : Hid (szI c L.length = (s : Int)) := by unfold Hid szI; rw [hs]
      have HS := hid' hs
      have HT : Hid ((D ++ [(c, ht c L.length)]) ++ trF (f - 1) (c + s) L.length = tr a L.length) := by
        have h := hD.out
        rw [show f = (f - 1) + 1 by omega, trF_yes hlt] at h
        unfold Hid; rw [← h, List.append_assoc, hs]; rfl
      have R1 := rv_drop (k := c) rr (by rw [List.length_map]; omega) (rfl : cap - c = cap - c)
      have R2 := rv_take (k := s) R1 (by rw [List.length_drop, List.length_map]; omega)
      rw [← List.map_drop, ← List.map_take] at R2
      have hMl : ((L.drop c).take s).length = s := by rw [List.length_take, List.length_drop]; omega
      have hroot : rt pr (lf ((L.drop c).take s)) (ht c L.length) 0 = rt pr (lf L) (ht c L.length) c := rt_congr _ _ _ _ _ _ fun i hi => by rw [Nat.zero_add, take_drop_lf (by omega)]
      have HR := hid' hroot
      have HM := hid' hMl
      have R3 := R2.below hbel hB
      have hlen : ((rts pr (lf L) D).map (Value.int .i64)).length ≤ 64 := by unfold rts; rw [List.length_map, List.length_map]; omega
      have hcap1 : c < cap := by omega
      have hcap2 : c + s ≤ cap := by omega
      clear hs R1 R2 hMl hroot hc
      (go_wp2_with fail; (with_reducible refine (l2Size_any c L.length _ hcc h16).mono ?_); rintro _ _ ⟨rfl, rfl⟩)
      rw [HSZ.out]
      go_wp2_with fail
      (with_reducible refine (l2Root_any B (ht c L.length) b (off + c) (cap - c) s ((L.drop c).take s) _ R3 (digs_take (digs_drop hd c) s) hht (HM.out.trans HS.out) HS.out).mono ?_)
      rintro _ _ ⟨rfl, m, rfl⟩
      rw [HR.out]
      have hownm := hown.drewN m
      have hbm : Below w.heap.size w (wr.drewN m) := below_drewN hbel m
      go_wp2_with (at_builtin; refine wpList_push _ rfl _ _ 33 rfl w.heap.size 3 i0 (.int .i64 0) 8 Try.underlying33 hi hz0 hz1 hz2 rfl _ _ rfl hownm _ rfl rfl (by omega) (by decide) hbm.size ?_; intro v' w3 hown3 hbel3)
      go_roundw
      case rel => exact ⟨c + s, f - 1, D ++ [(c, ht c L.length)], by omega, by omega, by simp; omega, by go_num, HT, by unfold rts at hown3 ⊢; rw [List.map_append, List.map_append]; exact hown3, hbm.trans hbel3⟩
      case measure => simp [intOf]; omega
    · have HF : Hid (D = tr a L.length) := by have := hD.out; rw [trF_no (by omega), List.append_nil] at this; exact this
      rw [HF.out] at hown
      clear hc
      go_wp2_with fail
      go_ret
      exact newrow_of hown hbel

theorem foldD_snoc {n x : Int} {L : List Int} {k : Nat} (h : L[k]? = some x) : foldD n (L.take (k + 1)) = pr (foldD n (L.take k)) x := by
  have hlt : k < L.length := by
    rcases Nat.lt_or_ge k L.length with h1 | h1
    · exact h1
    · rw [List.getElem?_eq_none h1] at h; cases h
  rw [List.getElem?_eq_getElem hlt] at h
  simp only [Option.some.injEq] at h
  rw [List.take_succ_eq_append_getElem hlt, h]
  unfold foldD; rw [List.foldl_append]; rfl
theorem foldD_dig : ∀ (L : List Int) (n : Int), digB n = true → digB (foldD n L) = true
  | [], _, h => h
  | a :: L, n, _ => foldD_dig L (pr n a) (pr_dig n a)

set_option maxHeartbeats 1000000 in
theorem l2Fold_any (n : Int) (v : Value) (L : List Int) (B : Nat) (w : World) (h : RV w B v (L.map (Value.int .i64))) (hn : L.length ≤ 1048576) (hd : digs L = true) (h0 : digB n = true) :
    Calls Try.prog 63 #[.int .i64 n, v] w fun e w' => e = .returned (.int .i64 (foldD n L)) ∧ w = w' := by
  obtain ⟨A, cap, rfl, hl, hm, hc⟩ := h
  rw [List.length_map] at hl hc ⊢
  have HD := hid' hd
  have H0 := hid' h0
  clear hd h0
  go_enter Try.func63, Try.ntmps63
  go_wp2_with fail
  go_loop [5, 6] (fun x i => ∃ k : Nat, k ≤ L.length ∧ i = .int .i64 k ∧ x = .int .i64 (foldD n (L.take k))) (fun _ i => L.length - (intOf i).toNat)
  case atStart => exact ⟨0, Nat.zero_le _, rfl, rfl⟩
  case round =>
    obtain ⟨k, hk, rfl, rfl⟩ := hrel
    by_cases hlt : k < L.length
    · obtain ⟨b', off, rfl, hbB, hcell⟩ := hc (by omega)
      obtain ⟨x, hx, hxv⟩ := get_int hlt
      have hcx := hcell k _ hxv
      obtain ⟨d0, d1⟩ := digB_true.1 (digs_get hx HD.out)
      have HP := hid' (foldD_snoc (n := n) hx)
      obtain ⟨y0, y1⟩ := digB_true.1 (foldD_dig (L.take k) n H0.out)
      obtain ⟨y, hy⟩ : ∃ y, foldD n (L.take k) = y := ⟨_, rfl⟩
      rw [hy] at HP y0 y1 ⊢
      clear hcell hc hx hxv hy
      (go_wp2_with fail; (with_reducible refine (l1Pair_any y x _ y0 (by omega) d0 (by omega)).mono ?_); rintro _ _ ⟨rfl, rfl⟩)
      go_wp2_with fail
      go_round
      case rel => exact ⟨k + 1, by omega, by go_num, by rw [HP.out]⟩
      case measure => simp [intOf]; omega
    · have HF : Hid (foldD n (L.take k) = foldD n L) := by unfold Hid; rw [List.take_of_length_le (by omega)]
      rw [HF.out]
      clear hc
      go_wp2_with fail
      go_ret
      exact ⟨rfl, rfl⟩
end Go.Proofs.Ytcocknfdafmfnaa
