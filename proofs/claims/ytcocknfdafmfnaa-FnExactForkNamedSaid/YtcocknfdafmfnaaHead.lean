/- The walks of the functions on heads. -/
import Derived.Test.YtcocknfdafmfnaaNum
import Derived.Deep.RegionHeld3
namespace Go.Proofs.Ytcocknfdafmfnaa
set_option linter.unusedVariables false
open Go.RowKit

theorem sHeadPublic_any (s : Int) (w : World) : Calls Try.prog 36 #[.int .i64 s] w fun e w' => e = .returned (.int .i64 (hpub s)) ∧ w = w' := by
  cases hs : keyB s
  · have H : Hid (hpub s = 0) := by unfold Hid hpub; rw [hs]; rfl
    go_enter Try.func36, Try.ntmps36
    (go_wp2_with fail; (with_reducible refine (l3Key_b s false _ hs).mono ?_); rintro _ _ ⟨rfl, rfl⟩)
    go_wp2_with fail
    go_ret
    exact ⟨retI H.out.symm, rfl⟩
  · have H : Hid (hpub s = s * 5 % 997) := by unfold Hid hpub; rw [hs]; rfl
    obtain ⟨s0, s1⟩ := keyB_true.1 hs
    go_enter Try.func36, Try.ntmps36
    (go_wp2_with fail; (with_reducible refine (l3Key_b s true _ hs).mono ?_); rintro _ _ ⟨rfl, rfl⟩)
    go_wp2_with fail
    go_ret
    exact ⟨retI H.out.symm, rfl⟩

theorem l3Message_any (l d : Int) (w : World) (hl : 0 ≤ l) (hl' : l ≤ 990) (hd : digB d = true) :
    Calls Try.prog 42 #[.int .i64 l, .int .i64 d] w fun e w' => e = .returned (.int .i64 (msg l d)) ∧ w = w' := by
  obtain ⟨d0, d1⟩ := digB_true.1 hd
  have b0 := pr_nonneg l d
  have b1 := pr_le l d
  go_enter Try.func42, Try.ntmps42
  (go_wp2_with fail; (with_reducible refine (l1Pair_any l d _ hl (by omega) d0 (by omega)).mono ?_); rintro _ _ ⟨rfl, rfl⟩)
  go_wp2_with fail
  go_ret
  exact ⟨rfl, rfl⟩

theorem mul_bd (p m : Int) (p0 : 1 ≤ p) (p1 : p ≤ 996) (m0 : 1 ≤ m) (m1 : m ≤ 991) : 0 ≤ p * m ∧ p * m ≤ 1000000 :=
  ⟨Int.mul_nonneg (by omega) (by omega), Int.le_trans (Int.mul_le_mul p1 m1 (by omega) (by omega)) (by omega)⟩

set_option maxHeartbeats 1000000 in
theorem sHeadCheck_b (p l d s : Int) (b : Bool) (w : World) (h : hcB p l d s = b) :
    Calls Try.prog 23 #[.int .i64 p, .agg #[.int .i64 l, .int .i64 d, .int .i64 s]] w fun e w' => e = .returned (.bool b) ∧ Below w.heap.size w w' := by
  subst h
  cases hp : keyB p
  · have H : Hid (hcB p l d s = false) := by unfold Hid hcB; rw [hp]; simp
    go_enter Try.func23, Try.ntmps23
    go_wp2_with fail
    go_quiet ((first | (go_at_call 39; with_reducible exact quietL (l3Key_b p false _ hp))))
    go_wp2_with fail
    go_ret
    exact ⟨retB H.out.symm, below_drewN ((Below.refl _ _).alloc (Nat.le_refl _) _) _⟩
  · cases hl : inB l 0 16
    · have H : Hid (hcB p l d s = false) := by unfold Hid hcB; rw [hp, hl]; simp
      go_enter Try.func23, Try.ntmps23
      go_wp2_with fail
      go_quiet ((first | (go_at_call 39; with_reducible exact quietL (l3Key_b p true _ hp)) | (go_at_call 40; with_reducible exact quietL (l6In_b l 0 16 false _ hl))))
      go_wp2_with fail
      go_ret
      exact ⟨retB H.out.symm, below_drewN ((Below.refl _ _).alloc (Nat.le_refl _) _) _⟩
    · cases hd : digB d
      · have H : Hid (hcB p l d s = false) := by unfold Hid hcB; rw [hp, hl, hd]; simp
        go_enter Try.func23, Try.ntmps23
        go_wp2_with fail
        go_quiet ((first | (go_at_call 39; with_reducible exact quietL (l3Key_b p true _ hp)) | (go_at_call 40; with_reducible exact quietL (l6In_b l 0 16 true _ hl)) | (go_at_call 41; with_reducible exact quietL (l1Digest_b d false _ hd))))
        go_wp2_with fail
        go_ret
        exact ⟨retB H.out.symm, below_drewN ((Below.refl _ _).alloc (Nat.le_refl _) _) _⟩
      · cases hs : keyB s
        · have H : Hid (hcB p l d s = false) := by unfold Hid hcB; rw [hp, hl, hd, hs]; simp
          go_enter Try.func23, Try.ntmps23
          go_wp2_with fail
          go_quiet ((first | (go_at_call 39; with_reducible exact quietL (l3Key_b p true _ hp)) | (go_at_call 40; with_reducible exact quietL (l6In_b l 0 16 true _ hl)) | (go_at_call 41; with_reducible exact quietL (l1Digest_b d true _ hd)) | (go_at_call 39; with_reducible exact quietL (l3Key_b s false _ hs))))
          go_wp2_with fail
          go_ret
          exact ⟨retB H.out.symm, below_drewN ((Below.refl _ _).alloc (Nat.le_refl _) _) _⟩
        · obtain ⟨l0, l1⟩ := inB_true.1 hl
          obtain ⟨p0, p1⟩ := keyB_true.1 hp
          obtain ⟨s0, s1⟩ := keyB_true.1 hs
          have m0 : 1 ≤ msg l d := by unfold msg; have := pr_nonneg l d; omega
          have m1 : msg l d ≤ 991 := by unfold msg; have := pr_le l d; omega
          have pm := mul_bd p (msg l d) p0 p1 m0 m1
          obtain ⟨pm0, pm1⟩ := pm
          have H : Hid (hcB p l d s = (s * 5 % 997 == p * msg l d % 997)) := by unfold Hid hcB; rw [hp, hl, hd, hs]; simp
          go_enter Try.func23, Try.ntmps23
          go_wp2_with fail
          go_quiet ((first | (go_at_call 39; with_reducible exact quietL (l3Key_b p true _ hp)) | (go_at_call 40; with_reducible exact quietL (l6In_b l 0 16 true _ hl)) | (go_at_call 41; with_reducible exact quietL (l1Digest_b d true _ hd)) | (go_at_call 39; with_reducible exact quietL (l3Key_b s true _ hs)) | (go_at_call 42; with_reducible exact quietL (l3Message_any l d _ l0 (by omega) hd))))
          go_wp2_with fail
          go_ret
          exact ⟨retB H.out.symm, below_drewN ((Below.refl _ _).alloc (Nat.le_refl _) _) _⟩
theorem message_any (l d s : Int) (w : World) (l0 : 0 ≤ l) (l1 : l ≤ 990) (hd : digB d = true) :
    Calls Try.prog 27 #[.agg #[.int .i64 l, .int .i64 d, .int .i64 s]] w fun e w' => e = .returned (.int .i64 (msg l d)) ∧ w.alloc (.cells #[.int .i64 l, .int .i64 d, .int .i64 s] 24) = w' := by
  obtain ⟨d0, d1⟩ := digB_true.1 hd
  have b0 := pr_nonneg l d
  have b1 := pr_le l d
  have HD : Hid (dpair l d = pr l d) := dpair_ok (digB_true.2 ⟨l0, l1⟩) hd
  go_enter Try.func27, Try.ntmps27
  (go_wp2_with fail; (with_reducible refine (iDigestPair_any l d _).mono ?_); rintro _ _ ⟨rfl, rfl⟩)
  rw [HD.out]
  go_wp2_with fail
  go_ret
  exact ⟨rfl, rfl⟩
set_option maxHeartbeats 1000000 in
theorem iHeadCheck_b (p l d s : Int) (b : Bool) (w : World) (h : hcB p l d s = b) :
    Calls Try.prog 10 #[.int .i64 p, .agg #[.int .i64 l, .int .i64 d, .int .i64 s]] w fun e w' => e = .returned (.bool b) ∧ Below w.heap.size w w' := by
  subst h
  cases hp : keyB p
  · have H : Hid (hcB p l d s = false) := by unfold Hid hcB; rw [hp]; simp
    go_enter Try.func10, Try.ntmps10
    go_wp2_with fail
    go_quiet ((first | (go_at_call 24; with_reducible exact quietL (isKey_b p false _ hp))))
    go_wp2_with fail
    go_ret
    exact ⟨retB H.out.symm, below_drewN ((Below.refl _ _).alloc (Nat.le_refl _) _) _⟩
  · cases hl : inB l 0 16
    · have H : Hid (hcB p l d s = false) := by unfold Hid hcB; rw [hp, hl]; simp
      go_enter Try.func10, Try.ntmps10
      go_wp2_with fail
      go_quiet ((first | (go_at_call 24; with_reducible exact quietL (isKey_b p true _ hp)) | (go_at_call 25; with_reducible exact quietL (within_b l 0 16 false _ hl))))
      go_wp2_with fail
      go_ret
      exact ⟨retB H.out.symm, below_drewN ((Below.refl _ _).alloc (Nat.le_refl _) _) _⟩
    · cases hd : digB d
      · have H : Hid (hcB p l d s = false) := by unfold Hid hcB; rw [hp, hl, hd]; simp
        go_enter Try.func10, Try.ntmps10
        go_wp2_with fail
        go_quiet ((first | (go_at_call 24; with_reducible exact quietL (isKey_b p true _ hp)) | (go_at_call 25; with_reducible exact quietL (within_b l 0 16 true _ hl)) | (go_at_call 26; with_reducible exact quietL (isDigest_b d false _ hd))))
        go_wp2_with fail
        go_ret
        exact ⟨retB H.out.symm, below_drewN ((Below.refl _ _).alloc (Nat.le_refl _) _) _⟩
      · cases hs : keyB s
        · have H : Hid (hcB p l d s = false) := by unfold Hid hcB; rw [hp, hl, hd, hs]; simp
          go_enter Try.func10, Try.ntmps10
          go_wp2_with fail
          go_quiet ((first | (go_at_call 24; with_reducible exact quietL (isKey_b p true _ hp)) | (go_at_call 25; with_reducible exact quietL (within_b l 0 16 true _ hl)) | (go_at_call 26; with_reducible exact quietL (isDigest_b d true _ hd)) | (go_at_call 24; with_reducible exact quietL (isKey_b s false _ hs))))
          go_wp2_with fail
          go_ret
          exact ⟨retB H.out.symm, below_drewN ((Below.refl _ _).alloc (Nat.le_refl _) _) _⟩
        · obtain ⟨l0, l1⟩ := inB_true.1 hl
          obtain ⟨p0, p1⟩ := keyB_true.1 hp
          obtain ⟨s0, s1⟩ := keyB_true.1 hs
          have m0 : 1 ≤ msg l d := by unfold msg; have := pr_nonneg l d; omega
          have m1 : msg l d ≤ 991 := by unfold msg; have := pr_le l d; omega
          have pm := mul_bd p (msg l d) p0 p1 m0 m1
          obtain ⟨pm0, pm1⟩ := pm
          have H : Hid (hcB p l d s = ((IntKind.i64.wrap (s * 5)).tmod 997 == (IntKind.i64.wrap (p * msg l d)).tmod 997)) := by rw [IntWalk.i64_in _ (by omega), IntWalk.i64_in _ (by omega), Int.tmod_eq_emod_of_nonneg (by omega), Int.tmod_eq_emod_of_nonneg pm0]; unfold Hid hcB; rw [hp, hl, hd, hs]; simp
          go_enter Try.func10, Try.ntmps10
          go_wp2_with fail
          go_region_held3 (fun w' => w'.cell? ⟨w.heap.size, 0, none⟩ = some (.int .i64 l) ∧ w'.cell? ⟨w.heap.size, 1, none⟩ = some (.int .i64 d) ∧ w'.cell? ⟨w.heap.size, 2, none⟩ = some (.int .i64 s)) (go_keep)
            ((first | (go_at_call 25; refine (within_b l 0 16 true _ hl).mono ?_; rintro _ _ ⟨rfl, rfl⟩) | (go_at_call 26; refine (isDigest_b d true _ hd).mono ?_; rintro _ _ ⟨rfl, rfl⟩) | (go_at_call_of 24 p; refine (isKey_b p true _ hp).mono ?_; rintro _ _ ⟨rfl, rfl⟩) | (go_at_call_of 24 s; refine (isKey_b s true _ hs).mono ?_; rintro _ _ ⟨rfl, rfl⟩) | (go_at_call 27; refine (message_any l d s _ l0 (by omega) hd).mono ?_; rintro _ _ ⟨rfl, rfl⟩)))
          go_wp2_with fail
          go_ret
          exact ⟨retB H.out.symm, (((Below.refl _ _).alloc (Nat.le_refl _) _).alloc (by simp) _).drew⟩
end Go.Proofs.Ytcocknfdafmfnaa
