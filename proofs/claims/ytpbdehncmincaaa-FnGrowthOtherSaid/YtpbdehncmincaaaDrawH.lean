/- What DrawTreeGrowthCheck hands back. -/
import Derived.Test.YtpbdehncmincaaaLawH
import Derived.Deep.CutRange
namespace Go.Proofs.Ytpbdehncmincaaa
set_option linter.unusedVariables false
open Go.RowKit
/-- two numbers, two digests and a proof are drawn -/
def DrawnGC (w : World) (e : Ending) (w' : World) : Prop := ∃ (m old n d : Int) (v : Value) (M : List Int), e = .returned (.tuple #[.int .i64 m, .int .i64 old, .int .i64 n, .int .i64 d, v]) ∧ M.length ≤ 30 ∧ Row w' w.heap.size w'.heap.size 3 v (M.map (Value.int .i64)) ∧ Below w.heap.size w w'
def GcS (w : World) (g p : Nat) (v : Value) (wx : World) : Prop := ∃ D : List Int, D.length ≤ 28 ∧ OW wx (g + 1) 3 v (D.map (Value.int .i64)) ∧ Rdr wx g p ∧ Below w.heap.size w wx
theorem ow_base {w : World} {b b' : Nat} {e : TypeId} {v : Value} {L : List Value} (h : OW w b e v L) (hb : b' ≤ b) : OW w b' e v L := by
  unfold OW at *
  refine ⟨h.1, ?_⟩
  rcases h.2 with h0 | ⟨g, cap, cur, hv, hbg, rest⟩
  · exact .inl h0
  · exact .inr ⟨g, cap, cur, hv, by omega, rest⟩
theorem tgrowth_len9 (L : List Int) (m : Int) : (tgrowth L m).length ≤ 9 := tgrowth_len L m
set_option maxHeartbeats 8000000 in
set_option maxRecDepth 100000 in
theorem DrawTreeGrowthCheck_any (v : Value) (L : List Int) (w : World) (h : RV w w.heap.size v (L.map (Value.int .u8))) (hb : ∀ n ∈ L, (Lit.int .u8 n).wf = true) : Calls Try.prog 27 #[v] w (DrawnGC w) := by
  go_enter Try.func27, Try.ntmps27
  (go_wp2_with fail; (with_reducible refine (l6Open_any v L _ _ h hb (Nat.le_refl _)).mono ?_))
  rintro _ w1 ⟨rfl, h1, b1, hs1⟩
  go_wp2_with fail
  (with_reducible refine (l91Leaves_any _ 0 _ h1 (by omega)).mono ?_)
  rintro _ w2 ⟨v2, p2, rfl, hp2, h2, k2, D0, hD0, hlf, o2⟩
  have B2 : Below w.heap.size w w2 := b1.trans (below_of_grown k2 b1.size (Nat.le_refl _))
  have hg2 := h2.lt
  have o2b := ow_base o2 (b' := w.heap.size + 1) hs1
  obtain ⟨g, hg⟩ : ∃ g, g = w.heap.size := ⟨_, rfl⟩
  rw [← hg] at h2 hg2 o2b ⊢
  have hgw : w.heap.size ≤ g := by omega
  have hgw2 : g ≤ w.heap.size := by omega
  clear hg
  clear k2 h1 b1 hs1 o2
  obtain ⟨A2, c2, rfl, _, _, _⟩ := rv_intsC o2b.rv
  obtain ⟨bb, hbb⟩ : ∃ bb, leavesB D0 = bb := ⟨_, rfl⟩
  have HBB := hid' hbb
  clear hbb
  (go_wp2_with fail; (with_reducible refine (l2Leaves_b _ D0 _ _ bb o2b.rv (by omega) HBB.out).mono ?_); rintro _ _ ⟨rfl, rfl⟩)
  go_upto_if 20 with fail
  go_cut [8] from 14 to 70 (fun v wx => GcS w g p2 v wx)
  case first =>
    cases bb
    · have BN := balloc B2 (.cells #[.int .i64 1, .int .i64 2, .int .i64 3] 3)
      have HN := h2.alloc (.cells #[.int .i64 1, .int .i64 2, .int .i64 3] 3)
      have ON : OW (w2.alloc (.cells #[.int .i64 1, .int .i64 2, .int .i64 3] 3)) (g + 1) 3 (.slice (some ⟨w2.heap.size, 0, none⟩) 3 3) (([1, 2, 3] : List Int).map (Value.int .i64)) := OW.len (World.ownsRow_lit w2 #[.int .i64 1, .int .i64 2, .int .i64 3] 3 (by omega) (by decide) rfl)
      go_wp2_with fail
      go_meet
      case rel => exact show GcS _ _ _ _ _ from ⟨[1, 2, 3], by simp, ON, HN, BN⟩
    · go_wp2_with fail
      go_meet
      case rel => exact show GcS _ _ _ _ _ from ⟨D0, hD0, o2b, h2, B2⟩
  case rest =>
  obtain ⟨D, hD, o3, h3, B3⟩ := hcut
  clear B2 h2 o2b hg2 HBB
  obtain ⟨A3, c3, rfl, hl3, hm3, _⟩ := rv_intsC o3.rv
  have hg3 := h3.lt
  obtain ⟨n, n2⟩ : ∃ n : Nat, (D.length : Int) + 1 = (n : Int) := ⟨D.length + 1, by omega⟩
  have HN2 := hid' n2
  go_wp2_with fail
  (with_reducible refine (pick_any _ p2 (n : Int) _ h3 (by omega) (by omega) (by omega)).mono ?_)
  rintro _ w4 ⟨i, rfl, i0, i1, h4, k4⟩
  obtain ⟨m, rfl⟩ : ∃ m : Nat, i = (m : Int) := ⟨i.toNat, by omega⟩
  have o4 := own_grown o3 k4 (by omega)
  have B4 := B3.trans (below_of_grown k4 B3.size hgw)
  have hmn : m ≤ D.length := by omega
  have hmc : (m : Int) ≤ (c3 : Int) := by omega
  have rm := rv_take (k := m) o4.rv (by rw [List.length_map]; omega)
  rw [← List.map_take] at rm
  have htl : (D.take m).length ≤ 1048576 := by rw [List.length_take]; omega
  clear n2 k4 o3 h3 B3
  (go_wp2_with fail; (with_reducible refine (sTreeDigest_any _ (D.take m) _ rm htl).mono ?_))
  rintro _ w5 ⟨rfl, b5⟩
  have o5 := o4.next b5 (Nat.le_refl _)
  have h5 := h4.below b5 h4.lt
  have B5 := bstep B4 b5
  obtain ⟨t1, ht1⟩ : ∃ t, tdigest (D.take m) = t := ⟨_, rfl⟩
  rw [ht1]
  clear ht1 rm o4 h4 B4 b5
  (go_wp2_with fail; (with_reducible refine (sTreeGrowth_any _ D (m : Int) _ o5.rv (by omega)).mono ?_))
  rintro _ w6 ⟨vp, rfl, rp, b6⟩
  have o6 := o5.next b6 (Nat.le_refl _)
  have h6 := h5.below b6 h5.lt
  have B6 := bstep B5 b6
  have hpl := tgrowth_len9 D (m : Int)
  have hs5 := h5.lt
  have hw5 := B5.size
  clear o5 h5 B5 b6
  (go_wp2_with fail; (with_reducible refine (sTreeDigest_any _ D _ o6.rv (by omega)).mono ?_))
  rintro _ w7 ⟨rfl, b7⟩
  have rp7 := rp.next b7 (Nat.le_refl _)
  have h7 := h6.below b7 h6.lt
  have B7 := bstep B6 b7
  have hs7 := b7.size
  have hs6 := h6.lt
  obtain ⟨t, ht⟩ : ∃ t, tdigest D = t := ⟨_, rfl⟩
  rw [ht]
  clear ht o6 rp h6 B6 b7
  go_wp2_with fail
  (with_reducible refine (pick_any g _ 10 _ h7 (by omega) (by omega) (by omega)).mono ?_)
  rintro _ w8 ⟨y, rfl, y0, y1, h8, k8⟩
  have s8 := k8.size
  have rp8 := rp7.grown k8 (fun k hk => by simp at hk; omega)
  have B8 := B7.trans (below_of_grown k8 B7.size hgw)
  have hs8 := h8.lt
  clear k8 rp7 B7 h7
  rcases (show y = 0 ∨ y = 1 ∨ y = 2 ∨ y = 3 ∨ y = 4 ∨ y = 5 ∨ 6 ≤ y by omega) with rfl | rfl | rfl | rfl | rfl | rfl | hy
  · go_wp2_with fail
    (with_reducible refine (l91Digest_any g _ _ h8 (by omega)).mono ?_)
    rintro _ w9 ⟨_, p9, rfl, hp9, h9, k9, z, rfl, _, _⟩
    go_wp2_with fail
    refine bodyPost_ret (v := .tuple #[.int .i64 (m), .int .i64 (z), .int .i64 (D.length), .int .i64 (t), vp]) (by simp [results, Try.results27, go_sem]) rfl ⟨_, _, _, _, _, tgrowth D (m : Int), rfl, by omega, (rp8.grown k9 (fun k hk => by simp at hk; omega)).wide (by omega) (by have := k9.size; omega), B8.trans (below_of_grown k9 B8.size hgw)⟩
  · go_wp2_with fail
    (with_reducible refine (l91Digest_any g _ _ h8 (by omega)).mono ?_)
    rintro _ w9 ⟨_, p9, rfl, hp9, h9, k9, z, rfl, _, _⟩
    go_wp2_with fail
    refine bodyPost_ret (v := .tuple #[.int .i64 (m), .int .i64 (t1), .int .i64 (D.length), .int .i64 (z), vp]) (by simp [results, Try.results27, go_sem]) rfl ⟨_, _, _, _, _, tgrowth D (m : Int), rfl, by omega, (rp8.grown k9 (fun k hk => by simp at hk; omega)).wide (by omega) (by have := k9.size; omega), B8.trans (below_of_grown k9 B8.size hgw)⟩
  · go_wp2_with fail
    (with_reducible refine (pick_any g _ 18 _ h8 (by omega) (by omega) (by omega)).mono ?_)
    rintro _ w9 ⟨z, rfl, _, _, h9, k9⟩
    go_wp2_with fail
    refine bodyPost_ret (v := .tuple #[.int .i64 (z - 1), .int .i64 (t1), .int .i64 (D.length), .int .i64 (t), vp]) (by simp [results, Try.results27, go_sem]) rfl ⟨_, _, _, _, _, tgrowth D (m : Int), rfl, by omega, (rp8.grown k9 (fun k hk => by simp at hk; omega)).wide (by omega) (by have := k9.size; omega), B8.trans (below_of_grown k9 B8.size hgw)⟩
  · go_wp2_with fail
    (with_reducible refine (pick_any g _ 19 _ h8 (by omega) (by omega) (by omega)).mono ?_)
    rintro _ w9 ⟨z, rfl, _, _, h9, k9⟩
    go_wp2_with fail
    refine bodyPost_ret (v := .tuple #[.int .i64 (m), .int .i64 (t1), .int .i64 (z - 1), .int .i64 (t), vp]) (by simp [results, Try.results27, go_sem]) rfl ⟨_, _, _, _, _, tgrowth D (m : Int), rfl, by omega, (rp8.grown k9 (fun k hk => by simp at hk; omega)).wide (by omega) (by have := k9.size; omega), B8.trans (below_of_grown k9 B8.size hgw)⟩
  · go_wp2_with fail
    (with_reducible refine (l91Bend_any g _ vp (tgrowth D (m : Int)) w8.heap.size _ h8 (RV.mono rp8.rv (by omega)) (Nat.le_refl _) (by omega) (by omega)).mono ?_)
    rintro _ w9 ⟨vb, p9, rfl, hp9, h9, k9, Q, hQ, oQ⟩
    go_wp2_with fail
    refine bodyPost_ret (v := .tuple #[.int .i64 (m), .int .i64 (t1), .int .i64 (D.length), .int .i64 (t), vb]) (by simp [results, Try.results27, go_sem]) rfl ⟨_, _, _, _, _, Q, rfl, by omega, (Row.of oQ).wide (by have := B8.size; omega) (Nat.le_refl _), B8.trans (below_of_grown k9 B8.size hgw)⟩
  · go_wp2_with fail
    (with_reducible refine (l91Bend_any g _ vp (tgrowth D (m : Int)) w8.heap.size _ h8 (RV.mono rp8.rv (by omega)) (Nat.le_refl _) (by omega) (by omega)).mono ?_)
    rintro _ w9 ⟨vb, p9, rfl, hp9, h9, k9, Q, hQ, oQ⟩
    go_wp2_with fail
    refine bodyPost_ret (v := .tuple #[.int .i64 (m), .int .i64 (t1), .int .i64 (D.length), .int .i64 (t), vb]) (by simp [results, Try.results27, go_sem]) rfl ⟨_, _, _, _, _, Q, rfl, by omega, (Row.of oQ).wide (by have := B8.size; omega) (Nat.le_refl _), B8.trans (below_of_grown k9 B8.size hgw)⟩
  · have y2 : (y == (0 : Int)) = false := beq_eq_false_iff_ne.2 (by omega)
    have y3 : (y == (1 : Int)) = false := beq_eq_false_iff_ne.2 (by omega)
    have y4 : (y == (2 : Int)) = false := beq_eq_false_iff_ne.2 (by omega)
    have y5 : (y == (3 : Int)) = false := beq_eq_false_iff_ne.2 (by omega)
    have y6 : (y == (4 : Int)) = false := beq_eq_false_iff_ne.2 (by omega)
    have y7 : (y == (5 : Int)) = false := beq_eq_false_iff_ne.2 (by omega)
    go_wp2_with fail
    refine bodyPost_ret (v := .tuple #[.int .i64 (m), .int .i64 (t1), .int .i64 (D.length), .int .i64 (t), vp]) (by simp [results, Try.results27, go_sem]) rfl ⟨_, _, _, _, _, tgrowth D (m : Int), rfl, by omega, rp8.wide (by omega) (by omega), B8⟩
end Go.Proofs.Ytpbdehncmincaaa
