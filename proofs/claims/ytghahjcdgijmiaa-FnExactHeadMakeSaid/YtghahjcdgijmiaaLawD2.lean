/- The walks of further laws on signed heads. -/
import Derived.Test.YtghahjcdgijmiaaLawD
namespace Go.Proofs.Ytghahjcdgijmiaa
set_option linter.unusedVariables false
open Go.RowKit
set_option maxHeartbeats 4000000 in
set_option maxRecDepth 100000 in
theorem walk_FnHeadEmpty (v0 : Value) (L0 : List Int) (w : World) (r0 : RV w w.heap.size v0 (L0.map (Value.int .u8))) (b0 : ∀ n ∈ L0, (Lit.int .u8 n).wf = true) :
    Calls Try.prog 3 #[v0] w fun e w' => e = .returned (.bool true) ∧ Below w.heap.size w w' := by
  have rr0 := r0
  obtain ⟨A0, cap0, rfl, hl0, hm0, hc0⟩ := r0
  rw [List.length_map] at rr0 hl0 ⊢
  clear hc0
  unfold maxLen at hm0
  rcases small_case L0.length with hb | hb0
  · go_enter Try.func3, Try.ntmps3
    go_wp2_with fail
    go_ret
    exact ⟨rfl, Below.refl _ _⟩
  · go_enter Try.func3, Try.ntmps3
    (go_wp2_with fail; (with_reducible refine (DrawHeadPublic_any _ L0 _ rr0 b0).mono ?_))
    rintro _ w1 ⟨_, rfl, bb, s, rfl, _, _⟩
    have e1 : (hpub s != hpub s) = false := by simp
    have e2 : (hpub s == hpub s) = true := by simp
    cases hk : keyB s
    · have hp := hpub_no hk
      (go_wp2_with fail; (with_reducible refine (iHeadPublic_any s _).mono ?_); rintro _ _ ⟨rfl, rfl⟩)
      (go_wp2_with fail; (with_reducible refine (sHeadPublic_any s _).mono ?_); rintro _ _ ⟨rfl, rfl⟩)
      rw [hp]
      go_wp2_with fail
      go_ret
      exact ⟨rfl, bb⟩
    · have hne := hpub_ne hk
      have hm : hmB s [] = true := by unfold hmB; rw [hk]; rfl
      have HC : hcB (hpub s) 0 0 (hmS s []) = true := signed_ok hk (inB_true.2 ⟨by omega, by omega⟩) (digB_true.2 ⟨by omega, by omega⟩)
      obtain ⟨p, hp⟩ : ∃ p, hpub s = p := ⟨_, rfl⟩
      obtain ⟨g, hg⟩ : ∃ g, hmS s [] = g := ⟨_, rfl⟩
      rw [hp] at e1 e2 hne HC
      rw [hg] at HC
      have HP := hid' hp
      have IM := hid' (fun (W : World) (v : Value) (r : RV W W.heap.size v (([] : List Int).map (Value.int .i64))) => iHeadMake_yes s v [] W r (by simp) hm)
      rw [hg, show tdigest [] = 0 from rfl, show ((([] : List Int).length : Nat) : Int) = 0 from rfl] at IM
      unfold head3 at IM
      clear hp hg
      (go_wp2_with fail; (with_reducible refine (iHeadPublic_any s _).mono ?_); rintro _ _ ⟨rfl, rfl⟩)
      (go_wp2_with fail; (with_reducible refine (sHeadPublic_any s _).mono ?_); rintro _ _ ⟨rfl, rfl⟩)
      rw [HP.out]
      have rv2 : RV (w1.alloc (.cells #[] 3)) (w1.alloc (.cells #[] 3)).heap.size (.slice (some ⟨w1.heap.size, 0, none⟩) 0 0) (([] : List Int).map (Value.int .i64)) := RV.nil_ _ _ _ _ (by decide)
      (go_wp2_with fail; (with_reducible refine (IM.out _ _ rv2).mono ?_))
      rintro _ w3 ⟨rfl, b3⟩
      have bb3 := balloc (bstep (balloc bb (.cells #[] 3)) b3) (.cells #[.int .i64 0, .int .i64 0, .int .i64 g] 26)
      have x3 := Box.new w3 26 #[.int .i64 0, .int .i64 0, .int .i64 g]
      obtain ⟨c0, c1, c2⟩ := x3.c3
      (go_wp2_with fail; (with_reducible refine (iHeadCheck_b p 0 0 g true _ HC).mono ?_))
      rintro _ w4 ⟨rfl, b4⟩
      go_wp2_with fail
      go_ret
      exact ⟨rfl, bstep bb3 b4⟩
set_option maxHeartbeats 4000000 in
set_option maxRecDepth 100000 in
theorem walk_FnHeadLength (v0 : Value) (L0 : List Int) (v1 : Value) (L1 : List Int) (w : World) (r0 : RV w w.heap.size v0 (L0.map (Value.int .u8))) (b0 : ∀ n ∈ L0, (Lit.int .u8 n).wf = true) (r1 : RV w w.heap.size v1 (L1.map (Value.int .u8))) (_b1 : ∀ n ∈ L1, (Lit.int .u8 n).wf = true) :
    Calls Try.prog 4 #[v0, v1] w fun e w' => e = .returned (.bool true) ∧ Below w.heap.size w w' := by
  have rr0 := r0
  obtain ⟨A0, cap0, rfl, hl0, hm0, hc0⟩ := r0
  obtain ⟨A1, cap1, rfl, hl1, hm1, hc1⟩ := r1
  rw [List.length_map] at rr0 hl0 hl1 ⊢
  rw [List.length_map]
  clear hc0 hc1
  unfold maxLen at hm0 hm1
  obtain ⟨M, hM⟩ : ∃ M, M = L1.length := ⟨_, rfl⟩
  rw [← hM] at hl1 ⊢
  clear hM
  rcases small_cases L0.length M with hb | hb | ⟨hb0, hb1⟩
  · go_enter Try.func4, Try.ntmps4
    go_wp2_with fail
    go_ret
    exact ⟨rfl, Below.refl _ _⟩
  · go_enter Try.func4, Try.ntmps4
    go_wp2_with fail
    go_ret
    exact ⟨rfl, Below.refl _ _⟩
  · go_enter Try.func4, Try.ntmps4
    (go_wp2_with fail; (with_reducible refine (DrawHeadCheck_any _ L0 _ rr0 b0).mono ?_))
    rintro _ w1 ⟨p, a, b, c, rfl, bb⟩
    unfold head3
    have x1 := Box.new w1 26 #[.int .i64 a, .int .i64 b, .int .i64 c]
    have bb1 := balloc bb (.cells #[.int .i64 a, .int .i64 b, .int .i64 c] 26)
    obtain ⟨ok, hok⟩ : ∃ ok, hcB p a b c = ok := ⟨_, rfl⟩
    (go_wp2_with fail; (with_reducible refine (iHeadCheck_b p a b c ok _ hok).mono ?_))
    rintro _ w2 ⟨rfl, b2⟩
    have x2 := x1.next b2
    have bb2 := bstep bb1 b2
    obtain ⟨q, hq⟩ : ∃ q, q = w1.heap.size := ⟨_, rfl⟩
    rw [← hq] at x2 ⊢
    clear hq x1 bb1 b2
    obtain ⟨c0, c1, c2⟩ := x2.c3
    (go_wp2_with fail; (with_reducible refine (sHeadCheck_b p a b c ok _ hok).mono ?_))
    rintro _ w3 ⟨rfl, b3⟩
    have x3 := x2.next b3
    have bb3 := bstep bb2 b3
    have hq3 := x3.lt
    clear c0 c1 c2 x2 bb2 b3
    obtain ⟨c0, c1, c2⟩ := x3.c3
    cases ok
    · go_wp2_with fail
      go_ret
      exact ⟨rfl, bb3⟩
    · obtain ⟨hp1, hl1, hd1, hs1, _⟩ := hcB_parts hok
      obtain ⟨a0, a1⟩ := inB_true.1 hl1
      obtain ⟨d0, d1⟩ := digB_true.1 hd1
      obtain ⟨t0, t1⟩ := keyB_true.1 hs1
      obtain ⟨x, hx⟩ : ∃ x : Int, (M : Int) % 16 = x := ⟨_, rfl⟩
      have hx0 : 0 ≤ x := by omega
      have hx1 : x ≤ 15 := by omega
      have hx2 : (M : Int).tmod 16 = x := by rw [Int.tmod_eq_emod_of_nonneg (by omega)]; exact hx
      obtain ⟨y, hy⟩ : ∃ y : Int, (a + 1 + x) % 17 = y := ⟨_, rfl⟩
      have hy0 : 0 ≤ y := by omega
      have hy1 : y ≤ 16 := by omega
      have hy2 : (a + 1 + x).tmod 17 = y := by rw [Int.tmod_eq_emod_of_nonneg (by omega)]; exact hy
      have hya : y ≠ a := by omega
      have e1 : (y == a) = false := beq_eq_false_iff_ne.2 hya
      have HN := no_other_length hok hy0 hy1 hya
      have x4 := x3.alloc (.cells #[.int .i64 y, .int .i64 b, .int .i64 c] 26)
      obtain ⟨f0, f1, f2⟩ := x4.c3
      clear hya hok
      (go_wp2_with fail; (with_reducible refine (iHeadCheck_b p y b c false _ HN).mono ?_))
      rintro _ w4 ⟨rfl, b4⟩
      go_wp2_with fail
      go_ret
      exact ⟨rfl, bstep (balloc bb3 _) b4⟩
set_option maxHeartbeats 4000000 in
set_option maxRecDepth 100000 in
theorem walk_FnHeadDigest (v0 : Value) (L0 : List Int) (v1 : Value) (L1 : List Int) (w : World) (r0 : RV w w.heap.size v0 (L0.map (Value.int .u8))) (b0 : ∀ n ∈ L0, (Lit.int .u8 n).wf = true) (r1 : RV w w.heap.size v1 (L1.map (Value.int .u8))) (_b1 : ∀ n ∈ L1, (Lit.int .u8 n).wf = true) :
    Calls Try.prog 5 #[v0, v1] w fun e w' => e = .returned (.bool true) ∧ Below w.heap.size w w' := by
  have rr0 := r0
  obtain ⟨A0, cap0, rfl, hl0, hm0, hc0⟩ := r0
  obtain ⟨A1, cap1, rfl, hl1, hm1, hc1⟩ := r1
  rw [List.length_map] at rr0 hl0 hl1 ⊢
  rw [List.length_map]
  clear hc0 hc1
  unfold maxLen at hm0 hm1
  obtain ⟨M, hM⟩ : ∃ M, M = L1.length := ⟨_, rfl⟩
  rw [← hM] at hl1 ⊢
  clear hM
  rcases small_cases L0.length M with hb | hb | ⟨hb0, hb1⟩
  · go_enter Try.func5, Try.ntmps5
    go_wp2_with fail
    go_ret
    exact ⟨rfl, Below.refl _ _⟩
  · go_enter Try.func5, Try.ntmps5
    go_wp2_with fail
    go_ret
    exact ⟨rfl, Below.refl _ _⟩
  · go_enter Try.func5, Try.ntmps5
    (go_wp2_with fail; (with_reducible refine (DrawHeadCheck_any _ L0 _ rr0 b0).mono ?_))
    rintro _ w1 ⟨p, a, b, c, rfl, bb⟩
    unfold head3
    have x1 := Box.new w1 26 #[.int .i64 a, .int .i64 b, .int .i64 c]
    have bb1 := balloc bb (.cells #[.int .i64 a, .int .i64 b, .int .i64 c] 26)
    obtain ⟨ok, hok⟩ : ∃ ok, hcB p a b c = ok := ⟨_, rfl⟩
    (go_wp2_with fail; (with_reducible refine (iHeadCheck_b p a b c ok _ hok).mono ?_))
    rintro _ w2 ⟨rfl, b2⟩
    have x2 := x1.next b2
    have bb2 := bstep bb1 b2
    obtain ⟨q, hq⟩ : ∃ q, q = w1.heap.size := ⟨_, rfl⟩
    rw [← hq] at x2 ⊢
    clear hq x1 bb1 b2
    obtain ⟨c0, c1, c2⟩ := x2.c3
    (go_wp2_with fail; (with_reducible refine (sHeadCheck_b p a b c ok _ hok).mono ?_))
    rintro _ w3 ⟨rfl, b3⟩
    have x3 := x2.next b3
    have bb3 := bstep bb2 b3
    have hq3 := x3.lt
    clear c0 c1 c2 x2 bb2 b3
    obtain ⟨c0, c1, c2⟩ := x3.c3
    cases ok
    · go_wp2_with fail
      go_ret
      exact ⟨rfl, bb3⟩
    · obtain ⟨hp1, hl1, hd1, hs1, _⟩ := hcB_parts hok
      obtain ⟨a0, a1⟩ := inB_true.1 hl1
      obtain ⟨d0, d1⟩ := digB_true.1 hd1
      obtain ⟨t0, t1⟩ := keyB_true.1 hs1
      have hzd := other_dig b (M : Int) d0
      have hzn := other_ne b (M : Int) ⟨d0, d1⟩ (by omega)
      obtain ⟨z, hz⟩ : ∃ z, other b (M : Int) = z := ⟨_, rfl⟩
      have HZ := hid' hz
      rw [hz] at hzd hzn
      obtain ⟨x, hx⟩ : ∃ x : Int, (M : Int) % 995 = x := ⟨_, rfl⟩
      have hx0 : 0 ≤ x := by omega
      have hx1 : x ≤ 994 := by omega
      have hx2 : (M : Int).tmod 995 = x := by rw [Int.tmod_eq_emod_of_nonneg (by omega)]; exact hx
      obtain ⟨y, hy⟩ : ∃ y : Int, (c + x) % 996 = y := ⟨_, rfl⟩
      have hy0 : 0 ≤ y := by omega
      have hy1 : y ≤ 995 := by omega
      have hy2 : (c + x).tmod 996 = y := by rw [Int.tmod_eq_emod_of_nonneg (by omega)]; exact hy
      have hyc : 1 + y ≠ c := by omega
      have e1 : (z == b) = false := beq_eq_false_iff_ne.2 hzn
      have e2 : (1 + y == c) = false := beq_eq_false_iff_ne.2 hyc
      have HN := no_other_digest hok hzd.1 hzd.2 hzn
      have HM := no_other_sig hok hyc
      have HN' := hid' HN
      have x4 := fun o => x3.alloc o
      have x5 := fun o o' => (x3.alloc o).alloc o'
      have f0 := fun o => (x4 o).c3.1
      have f1 := fun o => (x4 o).c3.2.1
      have f2 := fun o => (x4 o).c3.2.2
      clear hyc hzn hz hok x4
      (go_wp2_with fail; (with_reducible refine (other_anyC b (M : Int) _ d0 d1 (by omega) (by omega)).mono ?_))
      rintro _ _ ⟨rfl, rfl⟩
      rw [HZ.out]
      have xb := Box.new (w3.alloc (.cells #[.int .i64 a, .int .i64 z, .int .i64 c] 26)) 26 #[.int .i64 a, .int .i64 b, .int .i64 (1 + y)]
      have hsz : (w3.alloc (.cells #[.int .i64 a, .int .i64 z, .int .i64 c] 26)).heap.size = w3.heap.size + 1 := by simp
      rw [hsz] at xb
      clear hsz
      have xq := x5 (.cells #[.int .i64 a, .int .i64 z, .int .i64 c] 26) (.cells #[.int .i64 a, .int .i64 b, .int .i64 (1 + y)] 26)
      clear x5
      (go_wp2_with fail; (with_reducible refine (iHeadCheck_b p a z c false _ HN).mono ?_))
      rintro _ w5 ⟨rfl, b5⟩
      have xb5 := xb.next b5
      have xq5 := xq.next b5
      obtain ⟨m0, m1, m2⟩ := xb5.c3
      obtain ⟨n0, n1, n2⟩ := xq5.c3
      (go_wp2_with fail; (with_reducible refine (iHeadCheck_b p a b (1 + y) false _ HM).mono ?_))
      rintro _ w6 ⟨rfl, b6⟩
      go_wp2_with fail
      go_ret
      exact ⟨rfl, bstep (bstep (balloc (balloc bb3 _) _) b5) b6⟩
theorem eqHead_self (a b c : Int) (w : World) : Calls Try.prog 20 #[.agg #[.int .i64 a, .int .i64 b, .int .i64 c], .agg #[.int .i64 a, .int .i64 b, .int .i64 c]] w fun e w' => e = .returned (.bool true) ∧ Below w.heap.size w w' := by
  have e1 : (a != a) = false := by simp
  have e2 : (b != b) = false := by simp
  have e3 : (c != c) = false := by simp
  go_enter Try.func20, Try.ntmps20
  go_wp2
  go_ret
  exact ⟨rfl, balloc (bnew w _) _⟩
theorem hm_both (s : Int) (L : List Int) (hn : L.length ≤ 1048576) : ∃ (a b c : Int) (ok : Bool),
    (∀ (W : World) (v : Value), RV W W.heap.size v (L.map (Value.int .i64)) → Calls Try.prog 18 #[.int .i64 s, v] W fun e w' => e = .returned (.tuple #[.agg #[.int .i64 a, .int .i64 b, .int .i64 c], .bool ok]) ∧ Below W.heap.size W w') ∧
    (∀ (W : World) (v : Value), RV W W.heap.size v (L.map (Value.int .i64)) → Calls Try.prog 13 #[.int .i64 s, v] W fun e w' => e = .returned (.tuple #[.agg #[.int .i64 a, .int .i64 b, .int .i64 c], .bool ok]) ∧ Below W.heap.size W w') := by
  cases hb : hmB s L
  · exact ⟨0, 0, 0, false, fun W v r => sHeadMake_no s v L W r hn hb, fun W v r => iHeadMake_no s v L W r hn hb⟩
  · exact ⟨_, _, _, true, fun W v r => sHeadMake_yes s v L W r hn hb, fun W v r => iHeadMake_yes s v L W r hn hb⟩
set_option maxHeartbeats 4000000 in
set_option maxRecDepth 100000 in
theorem walk_FnExactHeadMake (a0 : Int) (v1 : Value) (L1 : List Int) (w : World) (w0 : (Lit.int .i64 a0).wf = true) (r1 : RV w w.heap.size v1 (L1.map (Value.int .i64))) (b1 : ∀ n ∈ L1, (Lit.int .i64 n).wf = true) :
    Calls Try.prog 6 #[.int .i64 a0, v1] w fun e w' => e = .returned (.bool true) ∧ Below w.heap.size w w' := by
  have rr1 := r1
  obtain ⟨A1, cap1, rfl, hl1, hm1, hc1⟩ := r1
  rw [List.length_map] at rr1 hl1 ⊢
  clear hc1
  rcases small_case L1.length with hb | hs1
  · go_enter Try.func6, Try.ntmps6
    go_wp2_with fail
    go_ret
    exact ⟨rfl, Below.refl _ _⟩
  · obtain ⟨a, b, c, ok, SS, II⟩ := hm_both a0 L1 hs1
    have SS := hid' SS
    have II := hid' II
    have eok : (ok != ok) = false := by simp
    have eok2 : (ok == ok) = true := by simp
    go_enter Try.func6, Try.ntmps6
    (go_wp2_with fail; (with_reducible refine (toIntS_any _ L1 _ _ rr1 (Nat.le_refl _) hs1).mono ?_))
    rintro _ w1 ⟨vp, rfl, rp, k1⟩
    have r1 := RV.mono (rr1.below k1 (Nat.le_refl _)) k1.size
    (go_wp2_with fail; (with_reducible refine (SS.out _ _ rp.rv).mono ?_))
    rintro _ w2 ⟨rfl, k2⟩
    have x2 := Box.new w2 26 #[.int .i64 a, .int .i64 b, .int .i64 c]
    have r2 := rv_over r1 k2 (.cells #[.int .i64 a, .int .i64 b, .int .i64 c] 26)
    have bb2 := balloc (bstep k1 k2) (.cells #[.int .i64 a, .int .i64 b, .int .i64 c] 26)
    clear rr1 r1 k1 k2 rp
    (go_wp2_with fail; (with_reducible refine (toIntS_any _ L1 _ _ r2 (Nat.le_refl _) hs1).mono ?_))
    rintro _ w3 ⟨vx, rfl, rx, k3⟩
    have x3 := x2.next k3
    have r3 := RV.mono (r2.below k3 (Nat.le_refl _)) k3.size
    have bb3 := bstep bb2 k3
    obtain ⟨q, hq⟩ : ∃ q, q = w2.heap.size := ⟨_, rfl⟩
    rw [← hq] at x3 ⊢
    clear r2 k3 bb2 x2 hq
    (go_wp2_with fail; (with_reducible refine (II.out _ _ rx.rv).mono ?_))
    rintro _ w4 ⟨rfl, k4⟩
    have x4 := x3.next k4
    have hq4 := x4.lt
    have r4 := rv_over r3 k4 (.cells #[.int .i64 a, .int .i64 b, .int .i64 c] 26)
    have rx4 := (rx.next k4 (Nat.le_refl _)).next (bnew w4 (.cells #[.int .i64 a, .int .i64 b, .int .i64 c] 26)) k4.size
    have bb4 := balloc (bstep bb3 k4) (.cells #[.int .i64 a, .int .i64 b, .int .i64 c] 26)
    have x5 := x4.alloc (.cells #[.int .i64 a, .int .i64 b, .int .i64 c] 26)
    have h34 := k4.size
    clear r3 rx k4 bb3 x3
    obtain ⟨c0, c1, c2⟩ := x4.c3
    obtain ⟨e0, e1, e2⟩ := x5.c3
    (go_wp2_with fail; (with_reducible refine (eqHead_self a b c _).mono ?_))
    rintro _ w5 ⟨rfl, k5⟩
    have r5 := RV.mono (r4.below k5 (Nat.le_refl _)) k5.size
    have rx5 := rx4.next k5 (by simp; omega)
    have bb5 := bstep bb4 k5
    have h45 := k5.size
    simp only [World.size_alloc] at h45
    clear r4 rx4 k5 bb4
    (go_wp2_with fail; (with_reducible refine (toIntS_any _ L1 _ _ r5 (Nat.le_refl _) hs1).mono ?_))
    rintro _ w6 ⟨vy, rfl, ry, k6⟩
    have rx6 := rx5.next k6 (by omega)
    have h56 := k6.size
    (go_wp2_with fail; (with_reducible refine (eqIntS_any _ _ L1 L1 _ _ true (RV.mono (B' := w6.heap.size) rx6.rv (by omega)) (RV.mono (B' := w6.heap.size) ry.rv (by omega)) (Nat.le_refl _) (by omega) (eqI_self _)).mono ?_))
    rintro _ w7 ⟨rfl, k7⟩
    go_wp2_with fail
    go_ret
    exact ⟨rfl, bstep (bstep bb5 k6) k7⟩
end Go.Proofs.Ytghahjcdgijmiaa
