/- The walks of laws on signed heads. -/
import Derived.Test.YtghahjcdgijmiaaLawC3
import Derived.Test.YtghahjcdgijmiaaDrawD
import Derived.Test.YtghahjcdgijmiaaPlainD
namespace Go.Proofs.Ytghahjcdgijmiaa
set_option linter.unusedVariables false
open Go.RowKit
theorem rv_over {w w2 : World} {v : Value} {L : List Value} (h : RV w w.heap.size v L) (b : Below w.heap.size w w2) (o : Obj) : RV (w2.alloc o) (w2.alloc o).heap.size v L := RV.mono ((h.below b (Nat.le_refl _)).below (bnew w2 o) b.size) (by have := b.size; simp; omega)
/-- what a region reads of a head in block q, and what is kept -/
def HSx (w0 : World) (v : Value) (L : List Value) (q : Nat) (W : World) : Prop := RV W w0.heap.size v L ∧ Below w0.heap.size w0 W ∧ q < w0.heap.size
theorem hs_step {w0 w1 w2 : World} {v : Value} {L : List Value} {q : Nat} {a b c : Value} (h : w1.cell? ⟨q, 0, none⟩ = some a ∧ w1.cell? ⟨q, 1, none⟩ = some b ∧ w1.cell? ⟨q, 2, none⟩ = some c ∧ HSx w0 v L q w1) (hb : Below w1.heap.size w1 w2) :
    w2.cell? ⟨q, 0, none⟩ = some a ∧ w2.cell? ⟨q, 1, none⟩ = some b ∧ w2.cell? ⟨q, 2, none⟩ = some c ∧ HSx w0 v L q w2 := by
  obtain ⟨c0, c1, c2, r, b, l0⟩ := h
  have hs := b.size
  have hq : q < w1.heap.size := by omega
  exact ⟨(hb.cell (p := ⟨q, 0, none⟩) hq).trans c0, (hb.cell (p := ⟨q, 1, none⟩) hq).trans c1, (hb.cell (p := ⟨q, 2, none⟩) hq).trans c2, r.below hb hs, bstep b hb, l0⟩
theorem hs_rv {w0 w1 : World} {v : Value} {L : List Value} {q : Nat} {a b c : Value} (h : w1.cell? ⟨q, 0, none⟩ = some a ∧ w1.cell? ⟨q, 1, none⟩ = some b ∧ w1.cell? ⟨q, 2, none⟩ = some c ∧ HSx w0 v L q w1) : RV w1 w1.heap.size v L := h.2.2.2.1.mono h.2.2.2.2.1.size
theorem hs_bel {w0 w1 : World} {v : Value} {L : List Value} {q : Nat} {a b c : Value} (h : w1.cell? ⟨q, 0, none⟩ = some a ∧ w1.cell? ⟨q, 1, none⟩ = some b ∧ w1.cell? ⟨q, 2, none⟩ = some c ∧ HSx w0 v L q w1) : Below w0.heap.size w0 w1 := h.2.2.2.2.1
theorem own_emptyN {w : World} {base : Nat} {e : TypeId} (hb : base ≤ w.heap.size) (n : Nat) (hn : n = w.heap.size) : OW (w.alloc (.cells #[] e)) base e (.slice (some ⟨n, 0, none⟩) 0 0) [] := by subst hn; exact own_empty hb
theorem boolne (b : Bool) : (b != b) = false := by cases b <;> rfl
theorem booleq (b : Bool) : (b == b) = true := by cases b <;> rfl
set_option maxHeartbeats 4000000 in
set_option maxRecDepth 100000 in
theorem walk_FnHead (v0 : Value) (L0 : List Int) (w : World) (r0 : RV w w.heap.size v0 (L0.map (Value.int .u8))) (b0 : ∀ n ∈ L0, (Lit.int .u8 n).wf = true) :
    Calls Try.prog 8 #[v0] w fun e w' => e = .returned (.bool true) ∧ Below w.heap.size w w' := by
  have rr0 := r0
  obtain ⟨A0, cap0, rfl, hl0, hm0, hc0⟩ := r0
  rw [List.length_map] at rr0 hl0 ⊢
  clear hc0
  unfold maxLen at hm0
  rcases small_case L0.length with hb | hb0
  · go_enter Try.func8, Try.ntmps8
    go_wp2_with fail
    go_ret
    exact ⟨rfl, Below.refl _ _⟩
  · go_enter Try.func8, Try.ntmps8
    (go_wp2_with fail; (with_reducible refine (DrawHeadMake_any _ L0 _ rr0 b0).mono ?_))
    rintro _ w1 ⟨s, v, D, rfl, hD, hlf, rD, bb⟩
    have s1 := bb.size
    obtain ⟨AD, cD, rfl, hDl, hDm, hDc⟩ := row_intsC rD
    have rv := RV.mono (B' := w1.heap.size) rD.rv (by omega)
    clear hDc
    cases hm : hmB s D
    · (go_wp2_with fail; (with_reducible refine (iHeadMake_no s _ D _ rv (by omega) hm).mono ?_))
      rintro _ w2 ⟨rfl, b2⟩
      unfold head3
      have x2 := Box.new w2 26 #[.int .i64 0, .int .i64 0, .int .i64 0]
      have s2 := b2.size
      have rv2 := rv_over rv b2 (.cells #[.int .i64 0, .int .i64 0, .int .i64 0] 26)
      (go_wp2_with fail; (with_reducible refine (sHeadMake_no s _ D _ rv2 (by omega) hm).mono ?_))
      rintro _ w3 ⟨rfl, b3⟩
      unfold head3
      have x3 := x2.next b3
      have bb3 := bstep (balloc (bstep bb b2) _) b3
      obtain ⟨q, hq⟩ : ∃ q, q = w2.heap.size := ⟨_, rfl⟩
      have s3' : w2.heap.size < w3.heap.size := x3.lt
      have hqs : q < w3.heap.size := by omega
      rw [← hq] at x3 ⊢
      clear hq x2 rv rv2 b2 b3
      have x4 := x3.alloc (.cells #[.int .i64 0, .int .i64 0, .int .i64 0] 26)
      obtain ⟨c0, c1, c2⟩ := x3.c3
      obtain ⟨e0, e1, e2⟩ := x4.c3
      have bb4 := balloc bb3 (.cells #[.int .i64 0, .int .i64 0, .int .i64 0] 26)
      have q1 : ((0 : Int) == 0) = true := by simp
      go_wp2_with fail
      go_ret
      exact ⟨rfl, bb4⟩
    · (go_wp2_with fail; (with_reducible refine (iHeadMake_yes s _ D _ rv (by omega) hm).mono ?_))
      rintro _ w2 ⟨rfl, b2⟩
      unfold head3
      obtain ⟨hk, hlv⟩ : keyB s = true ∧ leavesB D = true := by unfold hmB at hm; rw [Bool.and_eq_true] at hm; exact hm
      obtain ⟨d16, dd⟩ := leavesB_len hlv
      have htd := tdigest_bd hlv
      obtain ⟨t, ht⟩ : ∃ t, tdigest D = t := ⟨_, rfl⟩
      have HT := hid' ht
      obtain ⟨g, hg⟩ : ∃ g, hmS s D = g := ⟨_, rfl⟩
      have HG := hid' hg
      rw [ht] at htd
      have x2 := Box.new w2 26 #[.int .i64 D.length, .int .i64 t, .int .i64 g]
      have s2 := b2.size
      have rv2 := rv_over rv b2 (.cells #[.int .i64 D.length, .int .i64 t, .int .i64 g] 26)
      rw [HT.out, HG.out]
      have SY := hid' (fun (W : World) (r : RV W W.heap.size (.slice AD D.length cD) (D.map (Value.int .i64))) => sHeadMake_yes s (.slice AD D.length cD) D W r (by omega) hm)
      rw [HT.out, HG.out] at SY
      unfold head3 at SY
      clear ht hg
      (go_wp2_with fail; (with_reducible refine (SY.out _ rv2).mono ?_))
      rintro _ w3 ⟨rfl, b3⟩
      have x3 := x2.next b3
      have bb3 := bstep (balloc (bstep bb b2) _) b3
      obtain ⟨q, hq⟩ : ∃ q, q = w2.heap.size := ⟨_, rfl⟩
      have s3 := b3.size
      have s3' : w2.heap.size < w3.heap.size := x3.lt
      have rv3 := RV.mono (B' := w3.heap.size) (rv2.below b3 (Nat.le_refl _)) s3
      have hqs : q < w3.heap.size := by omega
      rw [← hq] at x3 ⊢
      clear hq x2 rv rv2 b2 b3
      have x4 := x3.alloc (.cells #[.int .i64 D.length, .int .i64 t, .int .i64 g] 26)
      obtain ⟨c0, c1, c2⟩ := x3.c3
      obtain ⟨e0, e1, e2⟩ := x4.c3
      have bb4 := balloc bb3 (.cells #[.int .i64 D.length, .int .i64 t, .int .i64 g] 26)
      have q1 : ((D.length : Int) == (D.length : Int)) = true := by simp
      have q2 : (t == t) = true := by simp
      have q3 : (g == g) = true := by simp
      have HC : hcB (hpub s) D.length t g = true := by
        have h := signed_ok (l := (D.length : Int)) hk (inB_true.2 ⟨by omega, by omega⟩) htd
        rw [← HG.out]; unfold hmS; rw [HT.out]; exact h
      have S0 : (w3.alloc (.cells #[.int .i64 D.length, .int .i64 t, .int .i64 g] 26)).drew.cell? ⟨q, 0, none⟩ = some (.int .i64 D.length) ∧ (w3.alloc (.cells #[.int .i64 D.length, .int .i64 t, .int .i64 g] 26)).drew.cell? ⟨q, 1, none⟩ = some (.int .i64 t) ∧ (w3.alloc (.cells #[.int .i64 D.length, .int .i64 t, .int .i64 g] 26)).drew.cell? ⟨q, 2, none⟩ = some (.int .i64 g) ∧
          HSx (w3.alloc (.cells #[.int .i64 D.length, .int .i64 t, .int .i64 g] 26)) (.slice AD D.length cD) (D.map (Value.int .i64)) q (w3.alloc (.cells #[.int .i64 D.length, .int .i64 t, .int .i64 g] 26)).drew :=
        ⟨e0, e1, e2, (RV.mono (rv3.below (bnew w3 _).drew (Nat.le_refl _)) (by simp)), (Below.refl _ _).drew, by simp; omega⟩
      obtain ⟨w4, hw4⟩ : ∃ w4, w4 = w3.alloc (.cells #[.int .i64 D.length, .int .i64 t, .int .i64 g] 26) := ⟨_, rfl⟩
      have I1 := hid' (fun (W : World) (r : RV W W.heap.size (.slice AD D.length cD) (D.map (Value.int .i64))) => iTreeDigest_any (.slice AD D.length cD) D W r (by omega))
      rw [HT.out] at I1
      go_wp2_with fail
      rw [← hw4] at S0 bb4 ⊢
      clear hw4 x3 x4 c0 c1 c2 e0 e1 e2 rv3
      go_region_held3 (fun W => W.cell? ⟨q, 0, none⟩ = some (.int .i64 D.length) ∧ W.cell? ⟨q, 1, none⟩ = some (.int .i64 t) ∧ W.cell? ⟨q, 2, none⟩ = some (.int .i64 g) ∧ HSx w4 (.slice AD D.length cD) (D.map (Value.int .i64)) q W)
        (first | (exact hs_step (by assumption) b6) | (exact hs_step (by assumption) b5) | (exact S0) | assumption)
        ((first
          | (go_at_call 11; (with_reducible refine (iHeadPublic_any s _).mono ?_); rintro _ _ ⟨rfl, rfl⟩)
          | (go_at_call 14; (with_reducible refine (iHeadCheck_b _ _ _ _ true _ HC).mono ?_); rintro _ w5 ⟨rfl, b5⟩)
          | (go_at_call 23; (with_reducible refine (I1.out _ (hs_rv (by assumption))).mono ?_); rintro _ w6 ⟨rfl, b6⟩)))
      go_wp2_with fail
      go_ret
      exact ⟨rfl, bstep bb4 (hs_bel (by assumption))⟩
set_option maxHeartbeats 4000000 in
set_option maxRecDepth 100000 in
theorem walk_FnHeadKey (v0 : Value) (L0 : List Int) (v1 : Value) (L1 : List Int) (w : World) (r0 : RV w w.heap.size v0 (L0.map (Value.int .u8))) (b0 : ∀ n ∈ L0, (Lit.int .u8 n).wf = true) (r1 : RV w w.heap.size v1 (L1.map (Value.int .u8))) (_b1 : ∀ n ∈ L1, (Lit.int .u8 n).wf = true) :
    Calls Try.prog 9 #[v0, v1] w fun e w' => e = .returned (.bool true) ∧ Below w.heap.size w w' := by
  have rr0 := r0
  obtain ⟨A0, cap0, rfl, hl0, hm0, hc0⟩ := r0
  obtain ⟨A1, cap1, rfl, hl1, hm1, hc1⟩ := r1
  rw [List.length_map] at rr0 hl0 hl1 ⊢
  rw [List.length_map]
  clear hc0 hc1
  unfold maxLen at hm0 hm1
  obtain ⟨M, hM⟩ : ∃ M, M = L1.length := ⟨_, rfl⟩
  rw [← hM] at hl1 ⊢
  clear hM
  rcases small_cases L0.length M with hb | hb | ⟨hb0, hb1⟩
  · go_enter Try.func9, Try.ntmps9
    go_wp2_with fail
    go_ret
    exact ⟨rfl, Below.refl _ _⟩
  · go_enter Try.func9, Try.ntmps9
    go_wp2_with fail
    go_ret
    exact ⟨rfl, Below.refl _ _⟩
  · go_enter Try.func9, Try.ntmps9
    (go_wp2_with fail; (with_reducible refine (DrawHeadMake_any _ L0 _ rr0 b0).mono ?_))
    rintro _ w1 ⟨s, v, D, rfl, hD, hlf, rD, bb⟩
    have s1 := bb.size
    obtain ⟨AD, cD, rfl, hDl, hDm, hDc⟩ := row_intsC rD
    have rv := RV.mono (B' := w1.heap.size) rD.rv (by omega)
    clear hDc
    cases hm : hmB s D
    · (go_wp2_with fail; (with_reducible refine (iHeadMake_no s _ D _ rv (by omega) hm).mono ?_))
      rintro _ w2 ⟨rfl, b2⟩
      unfold head3
      have x2 := Box.new w2 26 #[.int .i64 0, .int .i64 0, .int .i64 0]
      have s2 := b2.size
      have rv2 := rv_over rv b2 (.cells #[.int .i64 0, .int .i64 0, .int .i64 0] 26)
      (go_wp2_with fail; (with_reducible refine (sHeadMake_no s _ D _ rv2 (by omega) hm).mono ?_))
      rintro _ w3 ⟨rfl, b3⟩
      unfold head3
      have x3 := x2.next b3
      have bb3 := bstep (balloc (bstep bb b2) _) b3
      obtain ⟨q, hq⟩ : ∃ q, q = w2.heap.size := ⟨_, rfl⟩
      have s3' : w2.heap.size < w3.heap.size := x3.lt
      have hqs : q < w3.heap.size := by omega
      rw [← hq] at x3 ⊢
      clear hq x2 rv rv2 b2 b3
      have x4 := x3.alloc (.cells #[.int .i64 0, .int .i64 0, .int .i64 0] 26)
      obtain ⟨c0, c1, c2⟩ := x3.c3
      obtain ⟨e0, e1, e2⟩ := x4.c3
      have bb4 := balloc bb3 (.cells #[.int .i64 0, .int .i64 0, .int .i64 0] 26)
      have q1 : ((0 : Int) == 0) = true := by simp
      go_wp2_with fail
      go_ret
      exact ⟨rfl, bb4⟩
    · (go_wp2_with fail; (with_reducible refine (iHeadMake_yes s _ D _ rv (by omega) hm).mono ?_))
      rintro _ w2 ⟨rfl, b2⟩
      unfold head3
      obtain ⟨hk, hlv⟩ : keyB s = true ∧ leavesB D = true := by unfold hmB at hm; rw [Bool.and_eq_true] at hm; exact hm
      obtain ⟨d16, dd⟩ := leavesB_len hlv
      have htd := tdigest_bd hlv
      obtain ⟨t, ht⟩ : ∃ t, tdigest D = t := ⟨_, rfl⟩
      have HT := hid' ht
      obtain ⟨g, hg⟩ : ∃ g, hmS s D = g := ⟨_, rfl⟩
      have HG := hid' hg
      rw [ht] at htd
      have x2 := Box.new w2 26 #[.int .i64 D.length, .int .i64 t, .int .i64 g]
      have s2 := b2.size
      have rv2 := rv_over rv b2 (.cells #[.int .i64 D.length, .int .i64 t, .int .i64 g] 26)
      rw [HT.out, HG.out]
      have SY := hid' (fun (W : World) (r : RV W W.heap.size (.slice AD D.length cD) (D.map (Value.int .i64))) => sHeadMake_yes s (.slice AD D.length cD) D W r (by omega) hm)
      rw [HT.out, HG.out] at SY
      unfold head3 at SY
      clear ht hg
      (go_wp2_with fail; (with_reducible refine (SY.out _ rv2).mono ?_))
      rintro _ w3 ⟨rfl, b3⟩
      have x3 := x2.next b3
      have bb3 := bstep (balloc (bstep bb b2) _) b3
      obtain ⟨q, hq⟩ : ∃ q, q = w2.heap.size := ⟨_, rfl⟩
      have s3 := b3.size
      have s3' : w2.heap.size < w3.heap.size := x3.lt
      have rv3 := RV.mono (B' := w3.heap.size) (rv2.below b3 (Nat.le_refl _)) s3
      have hqs : q < w3.heap.size := by omega
      rw [← hq] at x3 ⊢
      clear hq x2 rv rv2 b2 b3
      have x4 := x3.alloc (.cells #[.int .i64 D.length, .int .i64 t, .int .i64 g] 26)
      obtain ⟨c0, c1, c2⟩ := x3.c3
      obtain ⟨e0, e1, e2⟩ := x4.c3
      have bb4 := balloc bb3 (.cells #[.int .i64 D.length, .int .i64 t, .int .i64 g] 26)
      have q1 : ((D.length : Int) == (D.length : Int)) = true := by simp
      have q2 : (t == t) = true := by simp
      have q3 : (g == g) = true := by simp
      have HC : hcB (hpub s) D.length t g = true := by
        have h := signed_ok (l := (D.length : Int)) hk (inB_true.2 ⟨by omega, by omega⟩) htd
        rw [← HG.out]; unfold hmS; rw [HT.out]; exact h
      obtain ⟨p0, p1⟩ := hpub_bd hk
      obtain ⟨p, hp⟩ : ∃ p, hpub s = p := ⟨_, rfl⟩
      have HP := hid' hp
      rw [hp] at HC p0 p1
      obtain ⟨x, hx⟩ : ∃ x : Int, (M : Int) % 995 = x := ⟨_, rfl⟩
      have hx0 : 0 ≤ x := by omega
      have hx1 : x ≤ 994 := by omega
      have hx2 : (M : Int).tmod 995 = x := by rw [Int.tmod_eq_emod_of_nonneg (by omega)]; exact hx
      obtain ⟨y, hy⟩ : ∃ y : Int, (p + x) % 996 = y := ⟨_, rfl⟩
      have hy0 : 0 ≤ y := by omega
      have hy1 : y ≤ 995 := by omega
      have hy2 : (p + x).tmod 996 = y := by rw [Int.tmod_eq_emod_of_nonneg (by omega)]; exact hy
      clear hp
      (go_wp2_with fail; (with_reducible refine (iHeadPublic_any s _).mono ?_); rintro _ _ ⟨rfl, rfl⟩)
      rw [HP.out]
      by_cases hkp : 1 + y = p
      · have e1 : (1 + y == p) = true := beq_iff_eq.2 hkp
        have HK := hid' hkp
        clear hkp
        (go_wp2_with fail; (with_reducible refine (iHeadPublic_any s _).mono ?_); rintro _ _ ⟨rfl, rfl⟩)
        rw [HP.out]
        go_wp2_with fail
        go_ret
        exact ⟨rfl, bb4⟩
      · have e1 : (1 + y == p) = false := beq_eq_false_iff_ne.2 hkp
        have HN := no_other_key HC hkp
        clear hkp
        (go_wp2_with fail; (with_reducible refine (iHeadPublic_any s _).mono ?_); rintro _ _ ⟨rfl, rfl⟩)
        rw [HP.out]
        (go_wp2_with fail; (with_reducible refine (iHeadCheck_b (1 + y) D.length t g false _ HN).mono ?_))
        rintro _ w5 ⟨rfl, b5⟩
        go_wp2_with fail
        go_ret
        exact ⟨rfl, bstep bb4 b5⟩
set_option maxHeartbeats 4000000 in
set_option maxRecDepth 100000 in
theorem walk_FnHeadChange (v0 : Value) (L0 : List Int) (v1 : Value) (L1 : List Int) (w : World) (r0 : RV w w.heap.size v0 (L0.map (Value.int .u8))) (b0 : ∀ n ∈ L0, (Lit.int .u8 n).wf = true) (r1 : RV w w.heap.size v1 (L1.map (Value.int .u8))) (_b1 : ∀ n ∈ L1, (Lit.int .u8 n).wf = true) :
    Calls Try.prog 7 #[v0, v1] w fun e w' => e = .returned (.bool true) ∧ Below w.heap.size w w' := by
  have rr0 := r0
  obtain ⟨A0, cap0, rfl, hl0, hm0, hc0⟩ := r0
  obtain ⟨A1, cap1, rfl, hl1, hm1, hc1⟩ := r1
  rw [List.length_map] at rr0 hl0 hl1 ⊢
  rw [List.length_map]
  clear hc0 hc1
  unfold maxLen at hm0 hm1
  obtain ⟨M, hM⟩ : ∃ M, M = L1.length := ⟨_, rfl⟩
  rw [← hM] at hl1 ⊢
  clear hM
  rcases small_cases L0.length M with hb | hb | ⟨hb0, hb1⟩
  · go_enter Try.func7, Try.ntmps7
    go_wp2_with fail
    go_ret
    exact ⟨rfl, Below.refl _ _⟩
  · go_enter Try.func7, Try.ntmps7
    go_wp2_with fail
    go_ret
    exact ⟨rfl, Below.refl _ _⟩
  · go_enter Try.func7, Try.ntmps7
    (go_wp2_with fail; (with_reducible refine (DrawHeadMake_any _ L0 _ rr0 b0).mono ?_))
    rintro _ w1 ⟨s, v, D, rfl, hD, hlf, rD, bb⟩
    have s1 := bb.size
    obtain ⟨AD, cD, rfl, hDl, hDm, hDc⟩ := row_intsC rD
    have rv := RV.mono (B' := w1.heap.size) rD.rv (by omega)
    clear hDc
    cases hm : hmB s D
    · (go_wp2_with fail; (with_reducible refine (iHeadMake_no s _ D _ rv (by omega) hm).mono ?_))
      rintro _ w2 ⟨rfl, b2⟩
      unfold head3
      have x2 := Box.new w2 26 #[.int .i64 0, .int .i64 0, .int .i64 0]
      have s2 := b2.size
      have rv2 := rv_over rv b2 (.cells #[.int .i64 0, .int .i64 0, .int .i64 0] 26)
      (go_wp2_with fail; (with_reducible refine (sHeadMake_no s _ D _ rv2 (by omega) hm).mono ?_))
      rintro _ w3 ⟨rfl, b3⟩
      unfold head3
      have x3 := x2.next b3
      have bb3 := bstep (balloc (bstep bb b2) _) b3
      obtain ⟨q, hq⟩ : ∃ q, q = w2.heap.size := ⟨_, rfl⟩
      have s3' : w2.heap.size < w3.heap.size := x3.lt
      have hqs : q < w3.heap.size := by omega
      rw [← hq] at x3 ⊢
      clear hq x2 rv rv2 b2 b3
      have x4 := x3.alloc (.cells #[.int .i64 0, .int .i64 0, .int .i64 0] 26)
      obtain ⟨c0, c1, c2⟩ := x3.c3
      obtain ⟨e0, e1, e2⟩ := x4.c3
      have bb4 := balloc bb3 (.cells #[.int .i64 0, .int .i64 0, .int .i64 0] 26)
      have q1 : ((0 : Int) == 0) = true := by simp
      go_wp2_with fail
      go_ret
      exact ⟨rfl, bb4⟩
    · (go_wp2_with fail; (with_reducible refine (iHeadMake_yes s _ D _ rv (by omega) hm).mono ?_))
      rintro _ w2 ⟨rfl, b2⟩
      unfold head3
      obtain ⟨hk, hlv⟩ : keyB s = true ∧ leavesB D = true := by unfold hmB at hm; rw [Bool.and_eq_true] at hm; exact hm
      obtain ⟨d16, dd⟩ := leavesB_len hlv
      have htd := tdigest_bd hlv
      obtain ⟨t, ht⟩ : ∃ t, tdigest D = t := ⟨_, rfl⟩
      have HT := hid' ht
      obtain ⟨g, hg⟩ : ∃ g, hmS s D = g := ⟨_, rfl⟩
      have HG := hid' hg
      rw [ht] at htd
      have x2 := Box.new w2 26 #[.int .i64 D.length, .int .i64 t, .int .i64 g]
      have s2 := b2.size
      have rv2 := rv_over rv b2 (.cells #[.int .i64 D.length, .int .i64 t, .int .i64 g] 26)
      rw [HT.out, HG.out]
      have SY := hid' (fun (W : World) (r : RV W W.heap.size (.slice AD D.length cD) (D.map (Value.int .i64))) => sHeadMake_yes s (.slice AD D.length cD) D W r (by omega) hm)
      rw [HT.out, HG.out] at SY
      unfold head3 at SY
      clear ht hg
      (go_wp2_with fail; (with_reducible refine (SY.out _ rv2).mono ?_))
      rintro _ w3 ⟨rfl, b3⟩
      have x3 := x2.next b3
      have bb3 := bstep (balloc (bstep bb b2) _) b3
      obtain ⟨q, hq⟩ : ∃ q, q = w2.heap.size := ⟨_, rfl⟩
      have s3 := b3.size
      have s3' : w2.heap.size < w3.heap.size := x3.lt
      have rv3 := RV.mono (B' := w3.heap.size) (rv2.below b3 (Nat.le_refl _)) s3
      have hqs : q < w3.heap.size := by omega
      rw [← hq] at x3 ⊢
      clear hq x2 rv rv2 b2 b3
      have x4 := x3.alloc (.cells #[.int .i64 D.length, .int .i64 t, .int .i64 g] 26)
      obtain ⟨c0, c1, c2⟩ := x3.c3
      obtain ⟨e0, e1, e2⟩ := x4.c3
      have bb4 := balloc bb3 (.cells #[.int .i64 D.length, .int .i64 t, .int .i64 g] 26)
      have q1 : ((D.length : Int) == (D.length : Int)) = true := by simp
      have q2 : (t == t) = true := by simp
      have q3 : (g == g) = true := by simp
      by_cases h0 : D.length = 0
      · have hz : ((D.length : Int) == 0) = true := beq_iff_eq.2 (by omega)
        clear h0
        go_wp2_with fail
        go_ret
        exact ⟨rfl, bb4⟩
      · obtain ⟨k, hkn, k1, k2⟩ := idx_of M D.length (by omega)
        obtain ⟨x, hx, _, hx2⟩ := idx_of L0.length 989 (by omega)
        have hx1 : (L0.length : Int) % 989 = (x : Int) := by omega
        have hx2' : (L0.length : Int).tmod 989 = (x : Int) := hx2
        obtain ⟨A', c', hv', _, _, hDc⟩ := rv_intsC rv3
        simp only [Value.slice.injEq] at hv'
        obtain ⟨rfl, _, rfl⟩ := hv'
        obtain ⟨b, off, rfl, hbB, hcell⟩ := hDc (by omega)
        obtain ⟨d, hd⟩ : ∃ d, D[k]? = some d := ⟨D[k], List.getElem?_eq_getElem hkn⟩
        have hd9 := digB_true.1 (digs_get hd dd)
        have hzd := other_dig d (x : Int) hd9.1
        have hzn := other_ne d (x : Int) hd9 (by omega)
        have hch := change_digest hlv hd hzd hzn
        obtain ⟨z, hz⟩ : ∃ z, other d (x : Int) = z := ⟨_, rfl⟩
        rw [HT.out] at hch
        rw [hz] at hzd hzn hch
        have hlv2 := leavesB_set hlv (k := k) hzd
        have hm2 : hmB s (D.set k z) = true := by unfold hmB; rw [hk, hlv2]; rfl
        have htd2 := tdigest_bd hlv2
        have hg2 : hmS s (D.set k z) ≠ g := by
          rw [← HG.out]; unfold hmS; rw [HT.out, List.length_set]
          exact other_sig hk htd htd2 fun e => hch e.symm
        obtain ⟨t2, ht2⟩ : ∃ t2, tdigest (D.set k z) = t2 := ⟨_, rfl⟩
        obtain ⟨g2, hgg⟩ : ∃ g2, hmS s (D.set k z) = g2 := ⟨_, rfl⟩
        rw [ht2] at hch
        rw [hgg] at hg2
        have HT2 := hid' ht2
        have HG2 := hid' hgg
        have HZ := hid' hz
        have HX := hid' hd
        have hz0 : ((D.length : Int) == 0) = false := beq_eq_false_iff_ne.2 (by omega)
        have zt2 : (t2 != t) = true := bne_iff_ne.2 fun e => hch e.symm
        have zt3 : (t2 == t) = false := beq_eq_false_iff_ne.2 fun e => hch e.symm
        have zg2 : (g2 != g) = true := bne_iff_ne.2 hg2
        have zg3 : (g2 == g) = false := beq_eq_false_iff_ne.2 hg2
        have kc1 : (0 : Int) ≤ (k : Int) := by omega
        have kc2 : (k : Int) < (D.length : Int) := by omega
        obtain ⟨j0, ji, jz0, jz1, jz2⟩ := info_parts infoInt
        have rv4 : RV (w3.alloc (.cells #[.int .i64 D.length, .int .i64 t, .int .i64 g] 26)) (w3.alloc (.cells #[.int .i64 D.length, .int .i64 t, .int .i64 g] 26)).heap.size (.slice (some ⟨b, off, none⟩) D.length cD) (D.map (Value.int .i64)) := RV.mono (rv3.below (bnew w3 _) (Nat.le_refl _)) (by simp)
        have hqs4 : q < (w3.alloc (.cells #[.int .i64 D.length, .int .i64 t, .int .i64 g] 26)).heap.size := by simp; omega
        have rv' : RV ((w3.alloc (.cells #[.int .i64 D.length, .int .i64 t, .int .i64 g] 26)).alloc (.cells #[] 3)) (w3.alloc (.cells #[.int .i64 D.length, .int .i64 t, .int .i64 g] 26)).heap.size (.slice (some ⟨b, off, none⟩) D.length cD) (D.map (Value.int .i64)) := rv4.below (bnew (w3.alloc (.cells #[.int .i64 D.length, .int .i64 t, .int .i64 g] 26)) _) (Nat.le_refl _)
        have IM := hid' (fun (W : World) (v : Value) (r : RV W W.heap.size v ((D.set k z).map (Value.int .i64))) => iHeadMake_yes s v (D.set k z) W r (by rw [List.length_set]; omega) hm2)
        rw [HT2.out, HG2.out, List.length_set] at IM
        unfold head3 at IM
        clear ht2 hgg hz hd hcell hDc hzn h0 rD hch hg2
        go_wp2_with (at_builtin; refine wpList_append_rv _ rfl _ _ 29 rfl (w3.alloc (.cells #[.int .i64 D.length, .int .i64 t, .int .i64 g] 26)).heap.size 3 j0 (.int .i64 0) 8 Try.underlying29 ji jz0 jz1 jz2 rfl _ _ rfl (own_emptyN (Nat.le_refl _) (w3.heap.size + 1) (by simp)) _ rfl _ _ rv' (one_ints _) (by rw [List.length_map]; simp; omega) (by decide) (by simp) ?_; intro v4 w5 o4 b4; simp only [List.nil_append] at o4; obtain ⟨u, cg, rfl, hcg, l1, l2, lb, l3⟩ := own_atC (con := Value.int .i64) (D := D) o4 HX.out; obtain ⟨l4, l5⟩ := l3 z; have L4 := hid' l4; have L5 := hid' l5; clear l3 l4 l5 o4)
        (with_reducible refine (other_anyC d (x : Int) _ hd9.1 hd9.2 (by omega) (by omega)).mono ?_)
        rintro _ _ ⟨rfl, rfl⟩
        rw [HZ.out]
        have c4 : Below (w3.alloc (.cells #[.int .i64 D.length, .int .i64 t, .int .i64 g] 26)).heap.size (w3.alloc (.cells #[.int .i64 D.length, .int .i64 t, .int .i64 g] 26)) (w5.setCell ⟨u, k, none⟩ (.int .i64 z)) := (((Below.refl _ _).alloc (Nat.le_refl _) _).trans b4).trans L5.out
        have x6 := x4.below c4 hqs4
        (go_wp2_with fail; (with_reducible refine (IM.out _ _ L4.out.rv).mono ?_))
        rintro _ w6 ⟨rfl, b6⟩
        have x7 := x6.next b6
        have x8 := x7.alloc (.cells #[.int .i64 D.length, .int .i64 t2, .int .i64 g2] 26)
        have hq6 := x7.lt
        obtain ⟨n0, n1, n2⟩ := x7.c3
        obtain ⟨y0, y1, y2⟩ := x8.c3
        go_wp2_with fail
        go_ret
        exact ⟨rfl, balloc (bstep (bstep bb4 c4) b6) _⟩
end Go.Proofs.Ytghahjcdgijmiaa
