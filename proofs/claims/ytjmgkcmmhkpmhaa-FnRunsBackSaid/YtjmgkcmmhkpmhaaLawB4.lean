/- The walks of laws on bits that are counted in parts. -/
import Derived.Test.YtjmgkcmmhkpmhaaLawB3
import Derived.Deep.DeepMust
import Derived.Deep.RegionHeld3
namespace Go.Proofs.Ytjmgkcmmhkpmhaa
set_option linter.unusedVariables false
open Go.RowKit
set_option maxHeartbeats 4000000 in
set_option maxRecDepth 100000 in
theorem walk_FnCountParts (v0 : Value) (L0 : List Int) (v1 : Value) (L1 : List Int) (w : World) (r0 : RV w w.heap.size v0 (L0.map (Value.int .u8))) (b0 : ∀ n ∈ L0, (Lit.int .u8 n).wf = true) (r1 : RV w w.heap.size v1 (L1.map (Value.int .u8))) (_b1 : ∀ n ∈ L1, (Lit.int .u8 n).wf = true) :
    Calls Try.prog 5 #[v0, v1] w fun e w' => e = .returned (.bool true) ∧ Below w.heap.size w w' := by
  have rr0 := r0
  obtain ⟨A0, cap0, rfl, hl0, hm0, hc0⟩ := r0
  obtain ⟨A1, cap1, rfl, hl1, hm1, hc1⟩ := r1
  rw [List.length_map] at rr0 hl0 hl1 ⊢
  rw [List.length_map]
  clear hc0 hc1
  unfold maxLen at hm0 hm1
  obtain ⟨M, hM⟩ : ∃ M, M = L1.length := ⟨_, rfl⟩
  rw [← hM] at hl1 ⊢
  clear hM
  rcases small_cases L0.length M with hb | hb | ⟨hb0, hb1⟩
  · go_enter Try.func5, Try.ntmps5
    go_wp2_with fail
    go_ret
    exact ⟨rfl, Below.refl _ _⟩
  · go_enter Try.func5, Try.ntmps5
    go_wp2_with fail
    go_ret
    exact ⟨rfl, Below.refl _ _⟩
  · go_enter Try.func5, Try.ntmps5
    (go_wp2_with fail; (with_reducible refine (DrawBitsCount_any _ L0 _ rr0 b0).mono ?_))
    rintro _ w1 ⟨v, D, rfl, hD, rD, bb⟩
    have s1 := bb.size
    have rDD := rD
    obtain ⟨AD, cD, rfl, hDl, hDm, hDc⟩ := row_slice rD
    have rv := RV.mono (B' := w1.heap.size) rD.rv (by omega)
    by_cases h16 : 16 < D.length
    · have hb := bcount_no h16
      clear hDc
      (go_wp2_with fail; (with_reducible refine (iBitsCount_any _ D _ _ rv (by omega)).mono ?_); rintro _ _ ⟨rfl, rfl⟩)
      (go_wp2_with fail; (with_reducible refine (sBitsCount_any _ D _ _ rv (by omega)).mono ?_); rintro _ _ ⟨rfl, rfl⟩)
      go_wp2_with fail
      go_ret
      exact ⟨rfl, bb⟩
    · have hb := bcount_ok (L := D) (by omega)
      have cl := cnt_le D
      obtain ⟨k, hk⟩ : ∃ k, M % (D.length + 1) = k := ⟨_, rfl⟩
      have hkn : k < D.length + 1 := by rw [← hk]; exact Nat.mod_lt _ (by omega)
      have hk1 : (M : Int) % ((D.length : Nat) + 1 : Int) = (k : Int) := by rw [← hk]; rfl
      have hk2 : (M : Int).tmod ((D.length : Nat) + 1 : Int) = (k : Int) := by rw [Int.tmod_eq_emod_of_nonneg (Int.natCast_nonneg _)]; exact hk1
      have R1 := rv_take (k := k) rv (by rw [List.length_map]; omega)
      rw [← List.map_take] at R1
      have HC := hid' (cnt_parts D k)
      have hb1 := bcount_ok (L := D.take k) (by rw [List.length_take]; omega)
      have hb2 := bcount_ok (L := D.drop k) (by rw [List.length_drop]; omega)
      have c1 := cnt_le (D.take k)
      have c2 := cnt_le (D.drop k)
      rw [List.length_take] at c1
      rw [List.length_drop] at c2
      clear hk
      by_cases hkd : k < D.length
      · obtain ⟨b, off, rfl, hbl, hcell⟩ := hDc (by omega)
        have R2 := rv_drop (k := k) rv (by rw [List.length_map]; omega) (rfl : cD - k = cD - k)
        rw [← List.map_drop] at R2
        have hkc : k < cD := by omega
        clear hcell hDc
        (go_wp2_with fail; (with_reducible refine (iBitsCount_any _ D _ _ rv (by omega)).mono ?_); rintro _ _ ⟨rfl, rfl⟩)
        (go_wp2_with fail; (with_reducible refine (sBitsCount_any _ D _ _ rv (by omega)).mono ?_); rintro _ _ ⟨rfl, rfl⟩)
        have HC' := HC.out
        have bk1 : bcount (D.take k) = ((cnt (D.take k) : Nat) : Int) := hb1
        have bk2 : bcount (D.drop k) = ((cnt (D.drop k) : Nat) : Int) := hb2
        have I1 := hid' (fun (n : Nat) => iBitsCount_any _ (D.take k) _ (w1.drewN n) R1 (by rw [List.length_take]; omega))
        have I2 := hid' (fun (n : Nat) => iBitsCount_any _ (D.drop k) _ (w1.drewN n) R2 (by rw [List.length_drop]; omega))
        rw [bk1] at I1
        rw [bk2] at I2
        clear bk1 bk2 hb1 hb2
        go_wp2_with fail
        go_quiet ((first | (go_at_call_of 19 (off + k); go_must (exact quietL (I2.out _))) | (go_at_call 19; go_must (exact quietL (I1.out _)))))
        go_wp2_with fail
        go_ret
        exact ⟨retB (beq_iff_eq.2 (by omega)), below_drewN bb _⟩
      · have e0 : D.drop k = [] := List.drop_of_length_le (by omega)
        have hcz : cnt (D.drop k) = 0 := by rw [e0]; rfl
        have htk : cnt (D.take k) = cnt D := by have := HC.out; omega
        have hz : D.length - k = 0 := by omega
        have bk1 : bcount (D.take k) = ((cnt D : Nat) : Int) := by rw [← htk]; exact hb1
        have I1 := hid' (fun (n : Nat) => iBitsCount_any _ (D.take k) _ (w1.drewN n) R1 (by rw [List.length_take]; omega))
        rw [bk1] at I1
        have I2 : Hid (∀ (n : Nat) (A : Option Addr) (c : Nat), c ≤ maxLen → Calls Try.prog 19 #[.slice A (D.length - k) c] (w1.drewN n) fun e w' => e = .returned (.int .i64 0) ∧ w1.drewN n = w') := by
          unfold Hid; intro n A c hc
          rw [hz]
          exact iBitsCount_any (.slice A 0 c) [] w1.heap.size (w1.drewN n) (RV.nil_ _ _ c A hc) (by simp)
        have hOW := rDD.1
        unfold OW at hOW
        rcases hOW.2 with ⟨hv, h0⟩ | ⟨g, cap, cur, hv, hbg, hg, hnc, hcm, hcs, htake⟩
        · simp only [Value.slice.injEq] at hv
          obtain ⟨rfl, hv1, rfl⟩ := hv
          have D0 : D = [] := List.eq_nil_of_length_eq_zero hv1
          have k0 : k = 0 := by rw [hv1] at hkn; omega
          subst D0 k0
          have J1 := hid' (fun (W : World) => iBitsCount_any (.slice none 0 0) [] W.heap.size W (RV.nil_ W _ _ _ (by decide)) (by simp))
          have J2 := hid' (fun (W : World) => sBitsCount_any (.slice none 0 0) [] W.heap.size W (RV.nil_ W _ _ _ (by decide)) (by simp))
          rw [show bcount [] = 0 from rfl] at J1 J2
          clear hDc hOW e0 hcz htk hz bk1 hb1 hb2 h0 rDD rD I1 I2 rv R1 HC hb
          simp only [List.length_nil] at hk1 hk2 ⊢
          (go_wp2_with fail; (with_reducible refine (J1.out _).mono ?_); rintro _ _ ⟨rfl, rfl⟩)
          (go_wp2_with fail; (with_reducible refine (J2.out _).mono ?_); rintro _ _ ⟨rfl, rfl⟩)
          go_wp2_with fail
          go_quiet ((go_at_call 19; go_must (exact quietL (J1.out _))))
          go_wp2_with fail
          go_ret
          exact ⟨rfl, below_drewN bb _⟩
        · simp only [Value.slice.injEq] at hv
          obtain ⟨rfl, hv1, rfl⟩ := hv
          clear hDc hOW e0 hcz htk hz bk1 hb1 hb2 hg hcs htake rDD rD hv1
          by_cases hkc : k < cD
          · skip
            (go_wp2_with fail; (with_reducible refine (iBitsCount_any _ D _ _ rv (by omega)).mono ?_); rintro _ _ ⟨rfl, rfl⟩)
            (go_wp2_with fail; (with_reducible refine (sBitsCount_any _ D _ _ rv (by omega)).mono ?_); rintro _ _ ⟨rfl, rfl⟩)
            go_wp2_with fail
            go_quiet ((first | (go_at_call_of 19 (D.length - k); go_must (exact quietL (I2.out _ _ _ (by omega)))) | (go_at_call 19; first | (exact quietL (I1.out _)) | (exact quietL (I2.out _ _ _ (by omega))))))
            go_wp2_with fail
            go_ret
            exact ⟨rfl, below_drewN bb _⟩
          · skip
            (go_wp2_with fail; (with_reducible refine (iBitsCount_any _ D _ _ rv (by omega)).mono ?_); rintro _ _ ⟨rfl, rfl⟩)
            (go_wp2_with fail; (with_reducible refine (sBitsCount_any _ D _ _ rv (by omega)).mono ?_); rintro _ _ ⟨rfl, rfl⟩)
            go_wp2_with fail
            go_quiet ((first | (go_at_call_of 19 (D.length - k); go_must (exact quietL (I2.out _ _ _ (by omega)))) | (go_at_call 19; first | (exact quietL (I1.out _)) | (exact quietL (I2.out _ _ _ (by omega))))))
            go_wp2_with fail
            go_ret
            exact ⟨rfl, below_drewN bb _⟩
end Go.Proofs.Ytjmgkcmmhkpmhaa
