/- What the functions hand back that draw proofs of trees. -/
import Derived.Test.YtpbdehncmincaaaDrawC
import Derived.Test.YtpbdehncmincaaaLawC3
namespace Go.Proofs.Ytpbdehncmincaaa
set_option linter.unusedVariables false
open Go.RowKit

theorem own_cut {w : World} {base g n cap k : Nat} {e : TypeId} {L : List Value} (h : OW w base e (.slice (some ⟨g, 0, none⟩) n cap) L) (hk : k ≤ L.length) : OW w base e (.slice (some ⟨g, 0, none⟩) k cap) (L.take k) := by
  unfold OW at *
  obtain ⟨h1, h2⟩ := h
  have hlen : (L.take k).length = k := by rw [List.length_take]; omega
  rw [hlen]
  refine ⟨by rw [hlen, Nat.mul_one], ?_⟩
  rcases h2 with ⟨hv, _⟩ | ⟨g', cap', cur, hv, hb, hg, hnc, hm, hs, ht⟩
  · cases hv
  · simp only [Value.slice.injEq, Option.some.injEq, Addr.mk.injEq, and_true] at hv
    obtain ⟨rfl, _, rfl⟩ := hv
    refine .inr ⟨g, cap, cur, rfl, hb, hg, by omega, hm, hs, ?_⟩
    rw [Nat.mul_one] at ht ⊢
    rw [← ht, List.take_take, Nat.min_eq_left hk]
theorem max_one (n : Nat) : ∃ k : Nat, 1 ≤ k ∧ k ≤ n + 1 ∧ max (n : Int) 1 = (k : Int) ∧ n ≤ k := by
  rcases Nat.eq_zero_or_pos n with h | h
  · exact ⟨1, by omega, by omega, by omega, by omega⟩
  · exact ⟨n, by omega, by omega, by omega, by omega⟩
theorem div13 {x : Int} (h0 : 0 ≤ x) (h1 : x < 14) : (x.tdiv 13 = 0 ∧ x / 13 = 0) ∨ (x.tdiv 13 = 1 ∧ x / 13 = 1) := by
  rw [Int.tdiv_eq_ediv_of_nonneg h0]; omega
/-- leaves and a number are drawn -/
def DrawnLI (w : World) (e : Ending) (w' : World) : Prop := ∃ (v : Value) (L : List Int) (i : Int), e = .returned (.tuple #[v, .int .i64 i]) ∧ L.length ≤ 28 ∧ leafy L ∧ Row w' w.heap.size w'.heap.size 3 v (L.map (Value.int .i64)) ∧ Below w.heap.size w w'
set_option maxHeartbeats 2000000 in
theorem DrawTreeGrowth_any (v : Value) (L : List Int) (w : World) (h : RV w w.heap.size v (L.map (Value.int .u8))) (hb : ∀ n ∈ L, (Lit.int .u8 n).wf = true) : Calls Try.prog 20 #[v] w (DrawnLI w) := by
  go_enter Try.func20, Try.ntmps20
  (go_wp2_with fail; (with_reducible refine (l6Open_any v L _ _ h hb (Nat.le_refl _)).mono ?_))
  rintro _ w1 ⟨rfl, h1, b1, hs1⟩
  go_wp2_with fail
  (with_reducible refine (l91Leaves_any _ 0 _ h1 (by omega)).mono ?_)
  rintro _ w2 ⟨v, p2, rfl, hp2, h2, k2, M, hM, hlf, ho⟩
  have rM := (Row.of ho).wide b1.size (Nat.le_refl _)
  obtain ⟨AM, cM, rfl, hMl, hMm, _⟩ := row_intsC rM
  have B2 := b1.trans (below_of_grown k2 b1.size (Nat.le_refl _))
  have hgw : w.heap.size < w2.heap.size := h2.lt
  obtain ⟨n, n2⟩ : ∃ n : Nat, (M.length : Int) + 1 = (n : Int) := ⟨M.length + 1, by omega⟩
  go_wp2_with fail
  (with_reducible refine (pick_any _ p2 (n : Int) _ h2 (by omega) (by omega) (by omega)).mono ?_)
  rintro _ w3 ⟨x, rfl, x0, x1, h3, k3⟩
  have o3 := own_grown ho k3 hs1
  have B3 := B2.trans (below_of_grown k3 B2.size (Nat.le_refl _))
  go_wp2_with fail
  (with_reducible refine (pick_any _ (p2 + 1) 14 _ h3 (by omega) (by omega) (by omega)).mono ?_)
  rintro _ w4 ⟨y, rfl, y0, y1, h4, k4⟩
  have o4 := own_grown o3 k4 hs1
  have B4 := B3.trans (below_of_grown k4 B3.size (Nat.le_refl _))
  rcases div13 y0 y1 with ⟨d1, d2⟩ | ⟨d1, d2⟩ <;> skip
  · go_wp2_with fail
    (with_reducible refine (pick_any _ (p2 + 2) 5 _ h4 (by omega) (by omega) (by omega)).mono ?_)
    rintro _ w5 ⟨z, rfl, z0, z1, h5, k5⟩
    have B5 := B4.trans (below_of_grown k5 B4.size (Nat.le_refl _))
    go_wp2_with fail
    go_ret2
    exact ⟨_, M, _, rfl, hM, hlf, (Row.of (own_grown o4 k5 hs1)).wide b1.size (Nat.le_refl _), B5⟩
  · go_wp2_with fail
    (with_reducible refine (pick_any _ (p2 + 2) 5 _ h4 (by omega) (by omega) (by omega)).mono ?_)
    rintro _ w5 ⟨z, rfl, z0, z1, h5, k5⟩
    have B5 := B4.trans (below_of_grown k5 B4.size (Nat.le_refl _))
    go_wp2_with fail
    go_ret2
    exact ⟨_, M, _, rfl, hM, hlf, (Row.of (own_grown o4 k5 hs1)).wide b1.size (Nat.le_refl _), B5⟩
def BendQ (base n : Nat) (v : Value) (w' : World) : Prop := ∃ M : List Int, M.length ≤ n ∧ OW w' base 3 v (M.map (Value.int .i64))
set_option maxHeartbeats 4000000 in
theorem l91Bend_any (g p : Nat) (v : Value) (L : List Int) (B : Nat) (w : World) (h : Rdr w g p) (r : RV w B v (L.map (Value.int .i64))) (hB : B ≤ w.heap.size) (hn : L.length ≤ 20) (hp : p ≤ 90000) :
    Calls Try.prog 46 #[.pointer (some ⟨g, 0, none⟩), v] w (DrawPost g p 10 (BendQ w.heap.size (L.length + 1)) w) := by
  have hgw := h.lt
  obtain ⟨j0, ji, jz0, jz1, jz2⟩ := info_parts infoInt
  obtain ⟨A, cap, rfl, hl, hm, _⟩ := rv_intsC r
  have r' : RV (w.alloc (.cells #[] 3)) B (.slice A L.length cap) (L.map (Value.int .i64)) := r.below (bnew w _) hB
  go_enter Try.func46, Try.ntmps46
  go_wp2_with (at_builtin; refine wpList_append_rv _ rfl _ _ 22 rfl w.heap.size 3 j0 (.int .i64 0) 8 Try.underlying22 ji jz0 jz1 jz2 rfl _ _ rfl (own_empty (Nat.le_refl w.heap.size)) _ rfl _ _ r' (one_ints _) (by rw [List.length_map]; simp; omega) (by decide) (by simp) ?_; intro v1 w1 o1 b1; simp only [List.nil_append] at o1)
  have c1 : Below w.heap.size w w1 := ((Below.refl _ _).alloc (Nat.le_refl _) _).trans b1
  have h1 := h.below c1 hgw
  (with_reducible refine (pick_any g p 4 _ h1 (by omega) (by omega) (by omega)).mono ?_)
  rintro _ w2 ⟨y, rfl, y0, y1, h2, k2⟩
  have o2 := own_grown o1 k2 hgw
  have g2 : w.grownBy w2 (some g) := grown_trans (grown_of_below c1) k2
  obtain ⟨s1, s2⟩ : w.heap.size ≤ w1.heap.size ∧ w.heap.size ≤ w2.heap.size := ⟨c1.size, g2.size⟩
  clear o1 k2 c1 b1 h1 r' r
  obtain ⟨A2, c2, hv2, hl2, hm2, hc2⟩ := rv_intsC o2.rv
  subst hv2
  have hlen : (L.map (Value.int .i64)).length ≤ 20 := by rw [List.length_map]; exact hn
  rcases (show y = 0 ∨ y = 1 ∨ 2 ≤ y by omega) with rfl | rfl | hy
  · clear hc2
    go_wp2_with fail
    (with_reducible refine (l91Digest_any g (p + 1) _ h2 (by omega)).mono ?_)
    rintro _ w4 ⟨_, q4, rfl, hq4, h4, k4, d, rfl, d0, d1⟩
    have o4 := own_grown o2 k4 hgw
    have g4 := grown_trans g2 k4
    go_wp2_with (at_builtin; refine wpList_push _ rfl _ _ 22 rfl w.heap.size 3 j0 (.int .i64 0) 8 Try.underlying22 ji jz0 jz1 jz2 rfl _ _ rfl o4 _ rfl rfl (by omega) (by decide) g4.size ?_; intro v' w5 o5 b5)
    go_ret
    exact ⟨_, q4, rfl, by omega, h4.below b5 hgw, grown_belowC g4 b5, L ++ [d], by simp, by rw [List.map_append]; exact o5⟩
  · by_cases h0 : 0 < L.length
    · obtain ⟨b, off, rfl, _, _⟩ := hc2 h0
      obtain ⟨g', c', hvv, _⟩ := own_form o2 (by rw [List.length_map]; exact h0)
      simp only [Value.slice.injEq, Option.some.injEq, Addr.mk.injEq] at hvv
      obtain ⟨⟨rfl, rfl, _⟩, hq, rfl⟩ := hvv
      clear hq
      obtain ⟨k, hk⟩ : ∃ k : Nat, L.length = k + 1 := ⟨L.length - 1, by omega⟩
      have HK := hid' hk
      have e1 : (L.length : Int) - 1 = (k : Int) := by omega
      have kc : (k : Int) ≤ (c2 : Int) := by omega
      have o3 := own_cut o2 (k := k) (by rw [List.length_map]; omega)
      have o3' : OW w2 w.heap.size 3 (.slice (some ⟨b, 0, none⟩) k c2) ((L.take k).map (Value.int .i64)) := by rw [List.map_take]; exact o3
      clear hk o2 o3 hc2
      go_wp2_with fail
      go_ret
      exact ⟨_, p + 1, rfl, by omega, h2, g2, L.take k, by rw [List.length_take]; omega, o3'⟩
    · clear hc2
      go_wp2_with fail
      go_ret
      exact ⟨_, p + 1, rfl, by omega, h2, g2, L, by omega, o2⟩
  · have hy0 : (y == (0 : Int)) = false := beq_eq_false_iff_ne.2 (by omega)
    have hy1 : (y == (1 : Int)) = false := beq_eq_false_iff_ne.2 (by omega)
    clear hc2
    by_cases h0 : 0 < L.length
    · go_wp2_with fail
      (with_reducible refine (pick_any g (p + 1) (L.length : Int) _ h2 (by omega) (by omega) (by omega)).mono ?_)
      rintro _ w3 ⟨z, rfl, z0, z1, h3, k3⟩
      have o3 := own_grown o2 k3 hgw
      have g3 := grown_trans g2 k3
      go_wp2_with fail
      (with_reducible refine (l91Digest_any g (p + 2) _ h3 (by omega)).mono ?_)
      rintro _ w4 ⟨_, q4, rfl, hq4, h4, k4, d, rfl, d0, d1⟩
      have o4 := own_grown o3 k4 hgw
      have g4 := grown_trans g3 k4
      obtain ⟨m, rfl⟩ : ∃ m : Nat, z = (m : Int) := ⟨z.toNat, by omega⟩
      have hml : m < L.length := by omega
      obtain ⟨c, hc⟩ : ∃ c, L[m]? = some c := ⟨L[m], List.getElem?_eq_getElem hml⟩
      obtain ⟨b, cb, hvb, l1, l2, lb, l3, l4⟩ := own_atC (con := Value.int .i64) o4 hc
      simp only [Value.slice.injEq] at hvb
      obtain ⟨rfl, _, rfl⟩ := hvb
      obtain ⟨l5, l6⟩ := l4 d
      have HL5 := hid' l5
      have HL6 := hid' l6
      clear hc l4 l5 l6 o4 o3 o2
      go_wp2_with fail
      go_ret
      exact ⟨_, q4, rfl, by omega, h4.below HL6.out hgw, grown_belowC g4 HL6.out, _, by rw [List.length_set]; omega, HL5.out⟩
    · go_wp2_with fail
      go_ret
      exact ⟨_, p + 1, rfl, by omega, h2, g2, L, by omega, o2⟩
end Go.Proofs.Ytpbdehncmincaaa
