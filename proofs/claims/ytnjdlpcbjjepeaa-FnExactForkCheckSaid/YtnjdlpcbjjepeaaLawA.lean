/- The walks of the laws on numbers, texts and keys. -/
import Derived.Test.YtnjdlpcbjjepeaaPlainA
import Derived.Test.YtnjdlpcbjjepeaaText
import Derived.Test.YtnjdlpcbjjepeaaDraw
import Derived.Test.YtnjdlpcbjjepeaaHead
namespace Go.Proofs.Ytnjdlpcbjjepeaa
set_option linter.unusedVariables false
open Go.RowKit

theorem walk_FnExactConstants (w : World) : Calls Try.prog 3 #[] w fun e w' => e = .returned (.bool true) ∧ Below w.heap.size w w' := by
  go_enter Try.func3, Try.ntmps3
  go_wp2
  go_ret
  exact ⟨rfl, Below.refl _ _⟩
theorem walk_FnExactHeadPublic (a : Int) (w : World) (_ : (Lit.int .i64 a).wf = true) : Calls Try.prog 4 #[.int .i64 a] w fun e w' => e = .returned (.bool true) ∧ Below w.heap.size w w' := by
  go_enter Try.func4, Try.ntmps4
  (go_wp2_with fail; (with_reducible refine (sHeadPublic_any a _).mono ?_); rintro _ _ ⟨rfl, rfl⟩)
  (go_wp2_with fail; (with_reducible refine (iHeadPublic_any a _).mono ?_); rintro _ _ ⟨rfl, rfl⟩)
  go_wp2_with fail
  go_ret
  exact ⟨rfl, Below.refl _ _⟩
theorem walk_FnExactDigestText (s : ByteArray) (w : World) (_ : s.size ≤ maxLen) : Calls Try.prog 5 #[.string s] w fun e w' => e = .returned (.bool true) ∧ Below w.heap.size w w' := by
  by_cases h : 1048576 < s.size
  · go_enter Try.func5, Try.ntmps5
    go_wp2_with fail
    go_ret
    exact ⟨rfl, Below.refl _ _⟩
  · go_enter Try.func5, Try.ntmps5
    (go_wp2_with fail; (with_reducible refine (sDigestText_any s _ (by omega)).mono ?_); rintro _ _ ⟨rfl, rfl⟩)
    (go_wp2_with fail; (with_reducible refine (iDigestText_any s _ (by omega)).mono ?_); rintro _ _ ⟨rfl, rfl⟩)
    go_wp2_with fail
    go_ret
    exact ⟨rfl, Below.refl _ _⟩
theorem walk_FnExactDigestPair (a b : Int) (w : World) (_ : (Lit.int .i64 a).wf = true) (_ : (Lit.int .i64 b).wf = true) : Calls Try.prog 6 #[.int .i64 a, .int .i64 b] w fun e w' => e = .returned (.bool true) ∧ Below w.heap.size w w' := by
  go_enter Try.func6, Try.ntmps6
  (go_wp2_with fail; (with_reducible refine (sDigestPair_any a b _).mono ?_); rintro _ _ ⟨rfl, rfl⟩)
  (go_wp2_with fail; (with_reducible refine (iDigestPair_any a b _).mono ?_); rintro _ _ ⟨rfl, rfl⟩)
  go_wp2_with fail
  go_ret
  exact ⟨rfl, Below.refl _ _⟩
theorem toHead_any (l d s : Int) (w : World) : Calls Try.prog 22 #[.agg #[.int .i64 l, .int .i64 d, .int .i64 s]] w fun e w' => e = .returned (.agg #[.int .i64 l, .int .i64 d, .int .i64 s]) ∧ Below w.heap.size w w' := by
  go_enter Try.func22, Try.ntmps22
  go_wp2
  refine bodyPost_ret (v := .agg #[.int .i64 l, .int .i64 d, .int .i64 s]) (by simp [results, Try.results22, go_sem]) rfl ⟨rfl, ?_⟩
  exact (((Below.refl _ _).alloc (Nat.le_refl _) _).alloc (by simp) _).alloc (by simp; omega) _

theorem walk_FnExactHeadCheck (p l d s : Int) (w : World) (_ : (Lit.int .i64 p).wf = true) (_ : (Lit.int .i64 l).wf = true) (_ : (Lit.int .i64 d).wf = true) (_ : (Lit.int .i64 s).wf = true) :
    Calls Try.prog 7 #[.int .i64 p, .agg #[.int .i64 l, .int .i64 d, .int .i64 s]] w fun e w' => e = .returned (.bool true) ∧ Below w.heap.size w w' := by
  obtain ⟨b, hb⟩ : ∃ b, hcB p l d s = b := ⟨_, rfl⟩
  go_enter Try.func7, Try.ntmps7
  (go_wp2_with fail; (with_reducible refine (toHead_any l d s _).mono ?_))
  rintro _ w1 ⟨rfl, b1⟩
  have x1 := (Box.new w _ _).next b1
  (go_wp2_with fail; (with_reducible refine (sHeadCheck_b p l d s b _ hb).mono ?_))
  rintro _ w2 ⟨rfl, b2⟩
  have x2 := x1.next b2
  obtain ⟨c0, c1, c2⟩ := x2.c3
  (go_wp2_with fail; (with_reducible refine (toHead_any l d s _).mono ?_))
  rintro _ w3 ⟨rfl, b3⟩
  (go_wp2_with fail; (with_reducible refine (iHeadCheck_b p l d s b _ hb).mono ?_))
  rintro _ w4 ⟨rfl, b4⟩
  have bb : (b != b) = false := by simp
  go_wp2_with fail
  go_ret
  exact ⟨rfl, bstep (bstep (bstep (bstep (bnew w _) b1) b2) b3) b4⟩
theorem small_case (n : Nat) : 1048576 < n ∨ n ≤ 1048576 := by omega
theorem small_cases (n m : Nat) : 1048576 < n ∨ (n ≤ 1048576 ∧ 1048576 < m) ∨ (n ≤ 1048576 ∧ m ≤ 1048576) := by omega
set_option maxHeartbeats 1000000 in
theorem walk_FnPublic (v0 : Value) (L0 : List Int) (v1 : Value) (L1 : List Int) (w : World) (r0 : RV w w.heap.size v0 (L0.map (Value.int .u8))) (b0 : ∀ n ∈ L0, (Lit.int .u8 n).wf = true) (r1 : RV w w.heap.size v1 (L1.map (Value.int .u8))) (_b1 : ∀ n ∈ L1, (Lit.int .u8 n).wf = true) :
    Calls Try.prog 9 #[v0, v1] w fun e w' => e = .returned (.bool true) ∧ Below w.heap.size w w' := by
  have rr0 := r0
  obtain ⟨A0, cap0, rfl, hl0, hm0, hc0⟩ := r0
  obtain ⟨A1, cap1, rfl, hl1, hm1, hc1⟩ := r1
  rw [List.length_map] at rr0 hl0 hl1 ⊢
  rw [List.length_map]
  clear hc0 hc1
  unfold maxLen at hm0 hm1
  obtain ⟨M, hM⟩ : ∃ M, M = L1.length := ⟨_, rfl⟩
  rw [← hM] at hl1 ⊢
  clear hM
  rcases small_cases L0.length M with hb | hb | ⟨hb0, hb1⟩
  · go_enter Try.func9, Try.ntmps9
    go_wp2_with fail
    go_ret
    exact ⟨rfl, Below.refl _ _⟩
  · go_enter Try.func9, Try.ntmps9
    go_wp2_with fail
    go_ret
    exact ⟨rfl, Below.refl _ _⟩
  · go_enter Try.func9, Try.ntmps9
    (go_wp2_with fail; (with_reducible refine (DrawHeadPublic_any _ L0 _ rr0 b0).mono ?_))
    rintro _ w1 ⟨v, rfl, k1, d, rfl, d0, d1⟩
    cases hk : keyB d
    · have h0 := hpub_no hk
      (go_wp2_with fail; (with_reducible refine (iHeadPublic_any d _).mono ?_); rintro _ _ ⟨rfl, rfl⟩)
      (go_wp2_with fail; (with_reducible refine (sHeadPublic_any d _).mono ?_); rintro _ _ ⟨rfl, rfl⟩)
      go_wp2_with fail
      go_ret
      exact ⟨rfl, k1⟩
    · have h0 := hpub_ne hk
      obtain ⟨p0, p1⟩ := keyB_true.1 hk
      have HK := hid' hk
      clear hk
      (go_wp2_with fail; (with_reducible refine (iHeadPublic_any d _).mono ?_); rintro _ _ ⟨rfl, rfl⟩)
      (go_wp2_with fail; (with_reducible refine (sHeadPublic_any d _).mono ?_); rintro _ _ ⟨rfl, rfl⟩)
      (go_wp2_with fail; (with_reducible refine (iHeadPublic_any _ _).mono ?_); rintro _ _ ⟨rfl, rfl⟩)
      go_wp2_with fail
      go_ret
      exact ⟨retB (pub_law _ _ HK.out (keyB_true.2 (by omega))), k1⟩
set_option maxHeartbeats 1000000 in
theorem walk_FnPairOrder (v0 : Value) (L0 : List Int) (w : World) (r0 : RV w w.heap.size v0 (L0.map (Value.int .u8))) (b0 : ∀ n ∈ L0, (Lit.int .u8 n).wf = true) :
    Calls Try.prog 10 #[v0] w fun e w' => e = .returned (.bool true) ∧ Below w.heap.size w w' := by
  have rr0 := r0
  obtain ⟨A0, cap0, rfl, hl0, hm0, hc0⟩ := r0
  rw [List.length_map] at rr0 hl0 ⊢
  clear hc0
  unfold maxLen at hm0
  rcases small_case L0.length with hb | hb0
  · go_enter Try.func10, Try.ntmps10
    go_wp2_with fail
    go_ret
    exact ⟨rfl, Below.refl _ _⟩
  · go_enter Try.func10, Try.ntmps10
    (go_wp2_with fail; (with_reducible refine (DrawDigestPair_any _ L0 _ rr0 b0).mono ?_))
    rintro _ w1 ⟨v, rfl, k1, a, b, rfl, a0, a1, b2, b3⟩
    by_cases hd : dpair a b = -1
    · (go_wp2_with fail; (with_reducible refine (iDigestPair_any a b _).mono ?_); rintro _ _ ⟨rfl, rfl⟩)
      (go_wp2_with fail; (with_reducible refine (sDigestPair_any a b _).mono ?_); rintro _ _ ⟨rfl, rfl⟩)
      go_wp2_with fail
      go_ret
      exact ⟨rfl, k1⟩
    · obtain ⟨ha, hb, he⟩ := dpair_dig hd
      have hba : dpair b a = pr b a := dpair_ok (digB_true.2 hb) (digB_true.2 ha)
      have q0 := pr_nonneg a b
      clear hd
      (go_wp2_with fail; (with_reducible refine (iDigestPair_any a b _).mono ?_); rintro _ _ ⟨rfl, rfl⟩)
      (go_wp2_with fail; (with_reducible refine (sDigestPair_any a b _).mono ?_); rintro _ _ ⟨rfl, rfl⟩)
      (go_wp2_with fail; (with_reducible refine (iDigestPair_any b a _).mono ?_); rintro _ _ ⟨rfl, rfl⟩)
      go_wp2_with fail
      go_ret
      exact ⟨retB (order_law a b ha hb), k1⟩
theorem other_any (d k : Int) (w : World) (d0 : 0 ≤ d) (d1 : d ≤ 990) (k0 : 0 ≤ k) (k1 : k ≤ 2097152) : Calls Try.prog 30 #[.int .i64 d, .int .i64 k] w fun e w' => e = .returned (.int .i64 (other d k)) ∧ w = w' := by
  go_enter Try.func30, Try.ntmps30
  go_wp2
  go_ret
  exact ⟨rfl, rfl⟩
set_option maxHeartbeats 1000000 in
theorem walk_FnPair (v0 : Value) (L0 : List Int) (v1 : Value) (L1 : List Int) (w : World) (r0 : RV w w.heap.size v0 (L0.map (Value.int .u8))) (b0 : ∀ n ∈ L0, (Lit.int .u8 n).wf = true) (r1 : RV w w.heap.size v1 (L1.map (Value.int .u8))) (_b1 : ∀ n ∈ L1, (Lit.int .u8 n).wf = true) :
    Calls Try.prog 14 #[v0, v1] w fun e w' => e = .returned (.bool true) ∧ Below w.heap.size w w' := by
  have rr0 := r0
  obtain ⟨A0, cap0, rfl, hl0, hm0, hc0⟩ := r0
  obtain ⟨A1, cap1, rfl, hl1, hm1, hc1⟩ := r1
  rw [List.length_map] at rr0 hl0 hl1 ⊢
  rw [List.length_map]
  clear hc0 hc1
  unfold maxLen at hm0 hm1
  obtain ⟨M, hM⟩ : ∃ M, M = L1.length := ⟨_, rfl⟩
  rw [← hM] at hl1 ⊢
  clear hM
  rcases small_cases L0.length M with hb | hb | ⟨hb0, hb1⟩
  · go_enter Try.func14, Try.ntmps14
    go_wp2_with fail
    go_ret
    exact ⟨rfl, Below.refl _ _⟩
  · go_enter Try.func14, Try.ntmps14
    go_wp2_with fail
    go_ret
    exact ⟨rfl, Below.refl _ _⟩
  · go_enter Try.func14, Try.ntmps14
    (go_wp2_with fail; (with_reducible refine (DrawDigestPair_any _ L0 _ rr0 b0).mono ?_))
    rintro _ w1 ⟨v, rfl, k1, a, b, rfl, a0, a1, b2, b3⟩
    by_cases hd : dpair a b = -1
    · (go_wp2_with fail; (with_reducible refine (iDigestPair_any a b _).mono ?_); rintro _ _ ⟨rfl, rfl⟩)
      (go_wp2_with fail; (with_reducible refine (sDigestPair_any a b _).mono ?_); rintro _ _ ⟨rfl, rfl⟩)
      go_wp2_with fail
      go_ret
      exact ⟨rfl, k1⟩
    · obtain ⟨ha, hb, he⟩ := dpair_dig hd
      have ox := other_dig a M ha.1
      have oy := other_dig b M hb.1
      have nx := beq_eq_false_iff_ne.2 (other_ne a M ha (by omega))
      have ny := beq_eq_false_iff_ne.2 (other_ne b M hb (by omega))
      have HX := hid' (show dpair (other a M) b = pr (other a M) b from dpair_ok (digB_true.2 ox) (digB_true.2 hb))
      have HY := hid' (show dpair a (other b M) = pr a (other b M) from dpair_ok (digB_true.2 ha) (digB_true.2 oy))
      have qx : (pr (other a M) b == pr a b) = false := beq_eq_false_iff_ne.2 (fun e => beq_eq_false_iff_ne.1 nx (pr_left ox ha e))
      have qy : (pr a (other b M) == pr a b) = false := beq_eq_false_iff_ne.2 (fun e => beq_eq_false_iff_ne.1 ny (pr_right oy hb e))
      have qx' : (pr (other a M) b != pr a b) = true := by simp [bne, qx]
      have qy' : (pr a (other b M) != pr a b) = true := by simp [bne, qy]
      have q0 := pr_nonneg a b
      obtain ⟨ha0, ha1⟩ := ha
      obtain ⟨hb0', hb1'⟩ := hb
      clear hd ox oy
      (go_wp2_with fail; (with_reducible refine (iDigestPair_any a b _).mono ?_); rintro _ _ ⟨rfl, rfl⟩)
      (go_wp2_with fail; (with_reducible refine (sDigestPair_any a b _).mono ?_); rintro _ _ ⟨rfl, rfl⟩)
      (go_wp2_with fail; (with_reducible refine (other_any a M _ ha0 ha1 (by omega) (by omega)).mono ?_); rintro _ _ ⟨rfl, rfl⟩)
      (go_wp2_with fail; (with_reducible refine (other_any b M _ hb0' hb1' (by omega) (by omega)).mono ?_); rintro _ _ ⟨rfl, rfl⟩)
      (go_wp2_with fail; (with_reducible refine (iDigestPair_any _ _ _).mono ?_); rintro _ _ ⟨rfl, rfl⟩)
      rw [HX.out]
      (go_wp2_with fail; (with_reducible refine (iDigestPair_any _ _ _).mono ?_); rintro _ _ ⟨rfl, rfl⟩)
      rw [HY.out]
      go_wp2_with fail
      go_ret
      exact ⟨rfl, k1⟩
set_option maxHeartbeats 1000000 in
theorem walk_FnTextEmpty (v0 : Value) (L0 : List Int) (w : World) (r0 : RV w w.heap.size v0 (L0.map (Value.int .u8))) (b0 : ∀ n ∈ L0, (Lit.int .u8 n).wf = true) :
    Calls Try.prog 12 #[v0] w fun e w' => e = .returned (.bool true) ∧ Below w.heap.size w w' := by
  have rr0 := r0
  obtain ⟨A0, cap0, rfl, hl0, hm0, hc0⟩ := r0
  rw [List.length_map] at rr0 hl0 ⊢
  clear hc0
  unfold maxLen at hm0
  rcases small_case L0.length with hb | hb0
  · go_enter Try.func12, Try.ntmps12
    go_wp2_with fail
    go_ret
    exact ⟨rfl, Below.refl _ _⟩
  · go_enter Try.func12, Try.ntmps12
    (go_wp2_with fail; (with_reducible refine (DrawDigestText_any _ L0 _ rr0 b0).mono ?_))
    rintro _ w1 ⟨v, rfl, k1, s, rfl, hs⟩
    have he : dtext (ByteArray.mk #[]).data.toList = 11 := rfl
    by_cases h8 : s.size ≤ 8
    · have hd := dtext_ok h8
      obtain ⟨t0, t1⟩ := txt_bd s.data.toList
      obtain ⟨o, ho⟩ : ∃ o, txt s.data.toList = o := ⟨_, rfl⟩
      rw [ho] at hd t0 t1
      clear ho
      have h8' : (s.size : Int) ≤ 8 := by omega
      (go_wp2_with fail; (with_reducible refine (iDigestText_any s _ (by omega)).mono ?_); rintro _ _ ⟨rfl, rfl⟩)
      (go_wp2_with fail; (with_reducible refine (sDigestText_any s _ (by omega)).mono ?_); rintro _ _ ⟨rfl, rfl⟩)
      (go_wp2_with fail; (with_reducible refine (iDigestText_any _ _ (by decide)).mono ?_); rintro _ _ ⟨rfl, rfl⟩)
      go_wp2_with fail
      go_ret
      exact ⟨rfl, k1⟩
    · have hd := dtext_bad (s := s) (by omega)
      have h8' : decide ((s.size : Int) ≤ 8) = false := by simp; omega
      (go_wp2_with fail; (with_reducible refine (iDigestText_any s _ (by omega)).mono ?_); rintro _ _ ⟨rfl, rfl⟩)
      (go_wp2_with fail; (with_reducible refine (sDigestText_any s _ (by omega)).mono ?_); rintro _ _ ⟨rfl, rfl⟩)
      (go_wp2_with fail; (with_reducible refine (iDigestText_any _ _ (by decide)).mono ?_); rintro _ _ ⟨rfl, rfl⟩)
      go_wp2_with fail
      go_ret
      exact ⟨rfl, k1⟩
set_option maxHeartbeats 1000000 in
theorem walk_FnTextNext (v0 : Value) (L0 : List Int) (v1 : Value) (L1 : List Int) (w : World) (r0 : RV w w.heap.size v0 (L0.map (Value.int .u8))) (b0 : ∀ n ∈ L0, (Lit.int .u8 n).wf = true) (r1 : RV w w.heap.size v1 (L1.map (Value.int .u8))) (_b1 : ∀ n ∈ L1, (Lit.int .u8 n).wf = true) :
    Calls Try.prog 13 #[v0, v1] w fun e w' => e = .returned (.bool true) ∧ Below w.heap.size w w' := by
  have rr0 := r0
  obtain ⟨A0, cap0, rfl, hl0, hm0, hc0⟩ := r0
  obtain ⟨A1, cap1, rfl, hl1, hm1, hc1⟩ := r1
  rw [List.length_map] at rr0 hl0 hl1 ⊢
  rw [List.length_map]
  clear hc0 hc1
  unfold maxLen at hm0 hm1
  obtain ⟨M, hM⟩ : ∃ M, M = L1.length := ⟨_, rfl⟩
  rw [← hM] at hl1 ⊢
  clear hM
  rcases small_cases L0.length M with hb | hb | ⟨hb0, hb1⟩
  · go_enter Try.func13, Try.ntmps13
    go_wp2_with fail
    go_ret
    exact ⟨rfl, Below.refl _ _⟩
  · go_enter Try.func13, Try.ntmps13
    go_wp2_with fail
    go_ret
    exact ⟨rfl, Below.refl _ _⟩
  · go_enter Try.func13, Try.ntmps13
    (go_wp2_with fail; (with_reducible refine (DrawDigestText_any _ L0 _ rr0 b0).mono ?_))
    rintro _ w1 ⟨v, rfl, k1, s, rfl, hs⟩
    rcases (show 8 < s.size ∨ s.size = 8 ∨ s.size < 8 by omega) with h8 | h8 | h8
    · have hd := dtext_bad h8
      (go_wp2_with fail; (with_reducible refine (iDigestText_any s _ (by omega)).mono ?_); rintro _ _ ⟨rfl, rfl⟩)
      (go_wp2_with fail; (with_reducible refine (sDigestText_any s _ (by omega)).mono ?_); rintro _ _ ⟨rfl, rfl⟩)
      go_wp2_with fail
      go_ret
      exact ⟨rfl, k1⟩
    · have hd := dtext_ok (s := s) (by omega)
      obtain ⟨t0, t1⟩ := txt_bd s.data.toList
      (go_wp2_with fail; (with_reducible refine (iDigestText_any s _ (by omega)).mono ?_); rintro _ _ ⟨rfl, rfl⟩)
      (go_wp2_with fail; (with_reducible refine (sDigestText_any s _ (by omega)).mono ?_); rintro _ _ ⟨rfl, rfl⟩)
      go_wp2_with fail
      go_ret
      exact ⟨rfl, k1⟩
    · have hd := dtext_ok (s := s) (by omega)
      obtain ⟨t0, t1⟩ := txt_bd s.data.toList
      obtain ⟨c, hc⟩ : ∃ c : Int, c = 97 + (M : Int) % 26 := ⟨_, rfl⟩
      have c0 : 97 ≤ c := by omega
      have c1 : c ≤ 122 := by omega
      have h8' : ((s.size : Int) == 8) = false := by simp; omega
      obtain ⟨t, ⟨ht, htl⟩, hconv⟩ := conv_one (w1.alloc (.cells #[.int .u8 c] 5)) c (by omega) (by omega) w1.heap.size (by rw [cell_of_row _ _ 0 _ _ _ (heap_alloc_new w1 _)]; rfl)
      have hadd : ∀ W, (Op.stringOp .add s t).run Try.prog W = .ok (.string (s ++ t)) W := fun W => run_string_add_sum W s t (by omega)
      have HN : Hid (dtext (s ++ t).data.toList = (257 * txt s.data.toList + c + 1) % 991) := by
        unfold Hid
        rw [dtext_ok (by rw [ByteArray.size_append]; omega), ByteArray.data_append, Array.toList_append, htl, txt_snoc, byte_of c (by omega) (by omega)]; rfl
      have HS : Hid ((s ++ t).size ≤ 1048576) := by unfold Hid; rw [ByteArray.size_append]; omega
      have hc' := hc.symm
      clear ht htl hc
      (go_wp2_with fail; (with_reducible refine (iDigestText_any s _ (by omega)).mono ?_); rintro _ _ ⟨rfl, rfl⟩)
      (go_wp2_with fail; (with_reducible refine (sDigestText_any s _ (by omega)).mono ?_); rintro _ _ ⟨rfl, rfl⟩)
      (go_wp2_with fail; (with_reducible refine (iDigestText_any _ _ HS.out).mono ?_); rintro _ _ ⟨rfl, rfl⟩)
      rw [HN.out]
      go_wp2_with fail
      go_ret
      exact ⟨retB (by simp), balloc k1 _⟩
end Go.Proofs.Ytnjdlpcbjjepeaa
