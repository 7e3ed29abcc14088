/- The walk of the law on runs that go back. -/
import Derived.Test.YtjmgkcmmhkpmhaaLawB4
namespace Go.Proofs.Ytjmgkcmmhkpmhaa
set_option linter.unusedVariables false
open Go.RowKit
theorem runs_len17 (L : List Bool) : (runs L).length ≤ 17 := by
  unfold runs
  split
  · have h := rstate_bound L L.length
    rw [List.take_length] at h
    unfold runL
    split
    · rw [List.length_append, List.length_singleton]; omega
    · omega
  · simp
theorem bitsOf_le (R : List Int) : ((bitsOf R).getD []).length ≤ 16 := by
  unfold bitsOf
  split
  · rename_i h; show (expand R R.length).length ≤ _; omega
  · show ([] : List Bool).length ≤ _; simp
def tame (R : List Int) : Prop := ∀ n ∈ R, -1 ≤ n ∧ n ≤ 99
theorem tame_runs (L : List Bool) : tame (runs L) := fun n hn => by have := runs_le L n hn; omega
theorem tame_snoc {R : List Int} {x : Int} (h : tame R) (h0 : -1 ≤ x) (h1 : x ≤ 99) : tame (R ++ [x]) := fun n hn => by
  rcases List.mem_append.1 hn with h2 | h2
  · exact h n h2
  · rw [List.mem_singleton.1 h2]; exact ⟨h0, h1⟩
theorem tame_set {R : List Int} {x : Int} {k : Nat} (h : tame R) (h0 : -1 ≤ x) (h1 : x ≤ 99) : tame (R.set k x) := fun n hn => by
  rcases List.mem_or_eq_of_mem_set hn with h2 | h2
  · exact h n h2
  · rw [h2]; exact ⟨h0, h1⟩
theorem tame_wf {R : List Int} (h : tame R) : ∀ n ∈ R, (Lit.int .i64 n).wf = true := fun n hn => WalkArith.wf_i64 (by have := h n hn; omega)
def DrawnRuns (w : World) (e : Ending) (w' : World) : Prop := ∃ (v : Value) (R : List Int), e = .returned v ∧ R.length ≤ 18 ∧ tame R ∧ Row w' w.heap.size w'.heap.size 3 v (R.map (Value.int .i64)) ∧ Below w.heap.size w w'
set_option maxHeartbeats 8000000 in
set_option maxRecDepth 100000 in
theorem DrawBitsOf_any (v : Value) (L : List Int) (w : World) (h : RV w w.heap.size v (L.map (Value.int .u8))) (hb : ∀ n ∈ L, (Lit.int .u8 n).wf = true) : Calls Try.prog 39 #[v] w (DrawnRuns w) := by
  obtain ⟨j0, ji, jz0, jz1, jz2⟩ := info_parts infoInt
  go_enter Try.func39, Try.ntmps39
  (go_wp2_with fail; (with_reducible refine (l6Open_any v L _ _ h hb (Nat.le_refl _)).mono ?_))
  rintro _ w1 ⟨rfl, h1, b1, hs1⟩
  go_wp2_with fail
  (with_reducible refine (l91Bits_any _ 0 _ h1 (by omega)).mono ?_)
  rintro _ w2 ⟨v, p2, rfl, hp2, h2, k2, D, hD, ho⟩
  have B2 := b1.trans (below_of_grown k2 b1.size (Nat.le_refl _))
  have h12 := k2.size
  (go_wp2_with fail; (with_reducible refine (sBitsRuns_any _ D _ ho.rv (by omega)).mono ?_))
  rintro _ w3 ⟨v3, rfl, r3, b3⟩
  have h3 := h2.below b3 h2.lt
  have B3 := B2.trans (b3.mono (by omega))
  have h23 := b3.size
  have hl17 := runs_len17 D
  have ht := tame_runs D
  obtain ⟨R, hR⟩ : ∃ R, runs D = R := ⟨_, rfl⟩
  rw [hR] at r3 hl17 ht
  have HT := hid' ht
  clear h1 b1 k2 h2 ho b3 hR ht B2
  have o3 := r3.1
  clear r3
  go_wp2_with fail
  (with_reducible refine (pick_any w.heap.size p2 10 _ h3 (by omega) (by omega) (by omega)).mono ?_)
  rintro _ w4 ⟨y, rfl, y0, y1, h4, k4⟩
  have o4 := own_grown o3 k4 (by omega)
  have h34 := k4.size
  have B4 := B3.trans (below_of_grown k4 B3.size (Nat.le_refl _))
  clear o3 k4 h3 B3
  obtain ⟨A4, c4, hv4, hl4, hm4, hc4⟩ := row_ints (Row.of o4)
  subst hv4
  clear hc4
  rcases (show y = 0 ∨ y = 1 ∨ 2 ≤ y by omega) with rfl | rfl | hy
  · by_cases h0 : 0 < R.length
    · go_wp2_with fail
      (with_reducible refine (pick_any w.heap.size _ (R.length : Int) _ h4 (by omega) (by omega) (by omega)).mono ?_)
      rintro _ w5 ⟨z, rfl, z0, z1, h5, k5⟩
      have o5 := own_grown o4 k5 (by omega)
      have B5 := B4.trans (below_of_grown k5 B4.size (Nat.le_refl _))
      have s5 := k5.size
      go_wp2_with fail
      (with_reducible refine (pick_any w.heap.size _ 4 _ h5 (by omega) (by omega) (by omega)).mono ?_)
      rintro _ w6 ⟨x, rfl, x0, x1, h6, k6⟩
      have o6 := (own_grown o5 k6 (by omega)).alloc (.cells #[.int .i64 0, .int .i64 (-1), .int .i64 16, .int .i64 17, .int .i64 x] 3)
      have B6 := balloc (B5.trans (below_of_grown k6 B5.size (Nat.le_refl _))) (.cells #[.int .i64 0, .int .i64 (-1), .int .i64 16, .int .i64 17, .int .i64 x] 3)
      have h6' := h6.alloc (.cells #[.int .i64 0, .int .i64 (-1), .int .i64 16, .int .i64 17, .int .i64 x] 3)
      have xb := Box.new w6 3 #[.int .i64 0, .int .i64 (-1), .int .i64 16, .int .i64 17, .int .i64 x]
      have s6 := k6.size
      go_wp2_with fail
      (with_reducible refine (pick_any w.heap.size _ 5 _ h6' (by omega) (by omega) (by omega)).mono ?_)
      rintro _ w7 ⟨u, rfl, u0, u1, h7, k7⟩
      have o7 := own_grown o6 k7 (by omega)
      have B7 := B6.trans (below_of_grown k7 B6.size (Nat.le_refl _))
      have s7 := k7.size
      simp only [World.size_alloc] at s7
      have xb7 : Box w7 w6.heap.size 3 #[.int .i64 0, .int .i64 (-1), .int .i64 16, .int .i64 17, .int .i64 x] := (k7.block w6.heap.size (by simp) (by simp; omega)).trans xb
      obtain ⟨m, rfl⟩ : ∃ m : Nat, z = (m : Int) := ⟨z.toNat, by omega⟩
      have hml : m < R.length := by omega
      obtain ⟨c, hc⟩ : ∃ c, R[m]? = some c := ⟨R[m], List.getElem?_eq_getElem hml⟩
      obtain ⟨g, cg, hvg, l1, l2, lb, l3, l4⟩ := own_at (con := Value.int .i64) o7 hc
      simp only [Value.slice.injEq] at hvg
      obtain ⟨rfl, _, rfl⟩ := hvg
      obtain ⟨q, hq, q0, q1⟩ : ∃ q : Int, w7.cell? ⟨w6.heap.size, u.toNat, none⟩ = some (.int .i64 q) ∧ -1 ≤ q ∧ q ≤ 99 := by
        rcases (show u = 0 ∨ u = 1 ∨ u = 2 ∨ u = 3 ∨ u = 4 by omega) with rfl | rfl | rfl | rfl | rfl
        · exact ⟨0, xb7.cell 0, by omega, by omega⟩
        · exact ⟨-1, xb7.cell 1, by omega, by omega⟩
        · exact ⟨16, xb7.cell 2, by omega, by omega⟩
        · exact ⟨17, xb7.cell 3, by omega, by omega⟩
        · exact ⟨x, xb7.cell 4, by omega, by omega⟩
      obtain ⟨n, rfl⟩ : ∃ n : Nat, u = (n : Int) := ⟨u.toNat, by omega⟩
      have hq' : w7.cell? ⟨w6.heap.size, n, none⟩ = some (.int .i64 q) := hq
      obtain ⟨l5, l6⟩ := l4 q
      have HL5 := hid' l5
      have HL6 := hid' l6
      have hmi : (0 : Int) ≤ (m : Int) := by omega
      have hni : (n : Int) < 5 := by omega
      clear hc l4 l5 l6 o7 o6 o5 o4 hq xb xb7
      go_wp2_with fail
      go_ret
      exact ⟨_, R.set m q, rfl, by rw [List.length_set]; omega, tame_set HT.out q0 q1, (Row.of HL5.out).wide (by omega) (Nat.le_refl _), B7.trans (HL6.out.mono (by omega))⟩
    · go_wp2_with fail
      go_ret
      exact ⟨_, R, rfl, by omega, HT.out, (Row.of o4).wide (by omega) (Nat.le_refl _), B4⟩
  · go_wp2_with fail
    (with_reducible refine (pick_any w.heap.size _ 9 _ h4 (by omega) (by omega) (by omega)).mono ?_)
    rintro _ w5 ⟨z, rfl, z0, z1, h5, k5⟩
    have o5 := own_grown o4 k5 (by omega)
    have B5 := B4.trans (below_of_grown k5 B4.size (Nat.le_refl _))
    have s5 := k5.size
    have hlen : (R.map (Value.int .i64)).length ≤ 17 := by rw [List.length_map]; exact hl17
    go_wp2_with (at_builtin; refine wpList_push _ rfl _ _ 30 rfl w2.heap.size 3 j0 (.int .i64 0) 8 Try.underlying30 ji jz0 jz1 jz2 rfl _ _ rfl o5 _ rfl rfl (by omega) (by decide) (by omega) ?_; intro v6 w6 o6 b6)
    go_ret
    exact ⟨_, R ++ [z], rfl, by simp; omega, tame_snoc HT.out (by omega) (by omega), (Row.of (by rw [List.map_append]; exact o6)).wide (by omega) (Nat.le_refl _), B5.trans (b6.mono (by omega))⟩
  · have hy0 : (y == (0 : Int)) = false := beq_eq_false_iff_ne.2 (by omega)
    have hy1 : (y == (1 : Int)) = false := beq_eq_false_iff_ne.2 (by omega)
    go_wp2_with fail
    go_ret
    exact ⟨_, R, rfl, by omega, HT.out, (Row.of o4).wide (by omega) (Nat.le_refl _), B4⟩
set_option maxHeartbeats 8000000 in
set_option maxRecDepth 100000 in
theorem walk_FnRunsBack (v0 : Value) (L0 : List Int) (w : World) (r0 : RV w w.heap.size v0 (L0.map (Value.int .u8))) (b0 : ∀ n ∈ L0, (Lit.int .u8 n).wf = true) :
    Calls Try.prog 15 #[v0] w fun e w' => e = .returned (.bool true) ∧ Below w.heap.size w w' := by
  have rr0 := r0
  obtain ⟨A0, cap0, rfl, hl0, hm0, hc0⟩ := r0
  rw [List.length_map] at rr0 hl0 ⊢
  clear hc0
  unfold maxLen at hm0
  rcases small_case L0.length with hb | hb0
  · go_enter Try.func15, Try.ntmps15
    go_wp2_with fail
    go_ret
    exact ⟨rfl, Below.refl _ _⟩
  · go_enter Try.func15, Try.ntmps15
    (go_wp2_with fail; (with_reducible refine (DrawBitsOf_any _ L0 _ rr0 b0).mono ?_))
    rintro _ w1 ⟨v, R, rfl, hR, htm, rD, bb⟩
    have s1 := bb.size
    have HWF := hid' (tame_wf htm)
    obtain ⟨AD, cD, rfl, hDl, hDm, hDc⟩ := row_ints rD
    have rv := RV.mono (B' := w1.heap.size) rD.rv (by omega)
    have hbl := bitsOf_le R
    have hbl2 : ((bitsOf R).getD []).length ≤ 33554432 := by omega
    obtain ⟨ok, hok⟩ : ∃ ok, (bitsOf R).isSome = ok := ⟨_, rfl⟩
    obtain ⟨X, hX⟩ : ∃ X, (bitsOf R).getD [] = X := ⟨_, rfl⟩
    have HOK := hid' hok
    have HX := hid' hX
    have e1 : (ok != ok) = false := by simp
    have e2 : (ok == ok) = true := by simp
    rw [hX] at hbl hbl2
    clear hDc hok hX htm
    (go_wp2_with fail; (with_reducible refine (iBitsOf_any _ R _ rv (by omega) HWF.out).mono ?_))
    rintro _ w2 ⟨v2, rfl, r2, b2⟩
    rw [HX.out] at r2
    rw [HOK.out]
    have s2 := b2.size
    replace rv := RV.mono (B' := w2.heap.size) (rv.below b2 (by omega)) (by omega)
    (go_wp2_with fail; (with_reducible refine (sBitsOf_any _ R _ rv (by omega) HWF.out).mono ?_))
    rintro _ w3 ⟨v3, rfl, r3, b3⟩
    rw [HX.out] at r3
    rw [HOK.out]
    have s3 := b3.size
    replace r2 := r2.next b3 (by omega)
    replace rv := RV.mono (B' := w3.heap.size) (rv.below b3 (by omega)) (by omega)
    (go_wp2_with fail; (with_reducible refine (sameBools_any _ _ X X _ _ true (RV.mono (B' := w3.heap.size) r2.rv (by omega)) (RV.mono (B' := w3.heap.size) r3.rv (by omega)) (Nat.le_refl _) hbl2 (by unfold eqB; simp)).mono ?_))
    rintro _ w4 ⟨rfl, b4⟩
    have s4 := b4.size
    replace r2 := r2.next b4 (by omega)
    replace r3 := r3.next b4 (by omega)
    replace rv := RV.mono (B' := w4.heap.size) (rv.below b4 (by omega)) (by omega)
    have bb4 := bstep (bstep (bstep bb b2) b3) b4
    clear bb b2 b3 b4
    cases ok
    · (go_wp2_with fail; (with_reducible refine (sameBools_any _ _ X X _ _ true (RV.mono (B' := w4.heap.size) r2.rv (by omega)) (RV.mono (B' := w4.heap.size) r3.rv (by omega)) (Nat.le_refl _) hbl2 (by unfold eqB; simp)).mono ?_))
      rintro _ w5 ⟨rfl, b5⟩
      go_wp2_with fail
      go_ret
      exact ⟨rfl, bstep bb4 b5⟩
    · have hback : Hid (runs X = R) := by
        have h1 := HOK.out
        have h2 := HX.out
        cases hb : bitsOf R with
        | none => rw [hb] at h1; cases h1
        | some Y =>
          rw [hb] at h2
          have h3 : Y = X := h2
          rw [← h3]; exact back_law hb
      (go_wp2_with fail; (with_reducible refine (iBitsRuns_any _ X _ (RV.mono (B' := w4.heap.size) r2.rv (by omega)) (by omega)).mono ?_))
      rintro _ w5 ⟨v5, rfl, r5, b5⟩
      rw [hback.out] at r5
      have s5 := b5.size
      replace rv := RV.mono (B' := w5.heap.size) (rv.below b5 (by omega)) (by omega)
      (go_wp2_with fail; (with_reducible refine (sameInts_any _ _ R R _ _ true (RV.mono (B' := w5.heap.size) r5.rv (by omega)) rv (Nat.le_refl _) (by omega) (eqI_self _)).mono ?_))
      rintro _ w6 ⟨rfl, b6⟩
      go_wp2_with fail
      go_ret
      exact ⟨rfl, bstep (bstep bb4 b5) b6⟩
end Go.Proofs.Ytjmgkcmmhkpmhaa
