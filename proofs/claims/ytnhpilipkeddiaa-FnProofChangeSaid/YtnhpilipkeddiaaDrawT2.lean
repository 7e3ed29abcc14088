/- What DrawTreeCheck hands back. -/
import Derived.Test.YtnhpilipkeddiaaDrawT
namespace Go.Proofs.Ytnhpilipkeddiaa
set_option linter.unusedVariables false
open Go.RowKit
/-- a digest, a number, a place, a leaf and a proof are drawn -/
def DrawnTC (w : World) (e : Ending) (w' : World) : Prop := ∃ (d n i leaf : Int) (v : Value) (M : List Int), e = .returned (.tuple #[.int .i64 d, .int .i64 n, .int .i64 i, .int .i64 leaf, v]) ∧ M.length ≤ 30 ∧ Row w' w.heap.size w'.heap.size 3 v (M.map (Value.int .i64)) ∧ Below w.heap.size w w'
theorem tproof_len3 (L : List Int) (i : Int) : (tproof L i).length ≤ 6 := by
  by_cases h : leavesB L = true ∧ 0 ≤ i ∧ i < L.length
  · obtain ⟨h16, hd⟩ := leavesB_len h.1
    obtain ⟨m, rfl⟩ : ∃ m : Nat, i = (m : Int) := ⟨i.toNat, by omega⟩
    rw [tproof_yes h.1 (by omega), proofOf_len pr (lf L) L.length m h16 (by omega)]
    exact (proofLen_le L.length m h16 (by omega)).1
  · rw [tproof_no h]; simp
set_option maxHeartbeats 8000000 in
set_option maxRecDepth 100000 in
theorem DrawTreeCheck_any (v : Value) (L : List Int) (w : World) (h : RV w w.heap.size v (L.map (Value.int .u8))) (hb : ∀ n ∈ L, (Lit.int .u8 n).wf = true) : Calls Try.prog 25 #[v] w (DrawnTC w) := by
  go_enter Try.func25, Try.ntmps25
  (go_wp2_with fail; (with_reducible refine (l6Open_any v L _ _ h hb (Nat.le_refl _)).mono ?_))
  rintro _ w1 ⟨rfl, h1, b1, hs1⟩
  go_wp2_with fail
  (with_reducible refine (l91Leaves_any _ 0 _ h1 (by omega)).mono ?_)
  rintro _ w2 ⟨v, p2, rfl, hp2, h2, k2, D, hD, hlf, ho⟩
  have B2 := b1.trans (below_of_grown k2 b1.size (Nat.le_refl _))
  have hgw : w.heap.size < w1.heap.size := hs1
  have h12 := k2.size
  obtain ⟨A2, c2, hv2, hl2, hm2, hc2⟩ := rv_intsC ho.rv
  subst hv2
  have B2' : Below w.heap.size w w2 := B2
  have hgg : w.heap.size ≤ w.heap.size := Nat.le_refl _
  clear k2 h1 b1 hs1
  by_cases h0 : D.length = 0
  · have hz : ((D.length : Int) == 0) = true := beq_iff_eq.2 (by omega)
    clear h0 hc2
    go_wp2_with fail
    (with_reducible refine (l91Digest_any w.heap.size p2 _ h2 (by omega)).mono ?_)
    rintro _ w3 ⟨_, p3, rfl, hp3, h3, k3, d, rfl, _, _⟩
    go_wp2_with fail
    (with_reducible refine (pick_any w.heap.size p3 3 _ h3 (by omega) (by omega) (by omega)).mono ?_)
    rintro _ w4 ⟨n, rfl, _, _, h4, k4⟩
    go_wp2_with fail
    (with_reducible refine (l91Digest_any w.heap.size (p3 + 1) _ h4 (by omega)).mono ?_)
    rintro _ w5 ⟨_, p5, rfl, hp5, h5, k5, x, rfl, _, _⟩
    have g5 := grown_trans (grown_trans k3 k4) k5
    have h25 := g5.size
    have B5 : Below w.heap.size w w5 := B2'.trans (below_of_grown g5 (Nat.le_trans hgg B2'.size) (Nat.le_refl _))
    go_wp2_with fail
    refine bodyPost_ret (v := .tuple #[.int .i64 d, .int .i64 n, .int .i64 0, .int .i64 x, .slice (some ⟨w5.heap.size, 0, none⟩) 0 0]) (by simp [results, Try.results25, go_sem]) rfl ⟨d, n, 0, x, _, [], rfl, by simp, (Row.of (own_empty (Nat.le_refl _))).wide (by omega) (Nat.le_refl _), ?_⟩
    exact balloc B5 _
  · have hz : ((D.length : Int) == 0) = false := beq_eq_false_iff_ne.2 (by omega)
    obtain ⟨b, off, rfl, hbB, hcell⟩ := hc2 (by omega)
    obtain ⟨gd, cd, hvd, hxx, hbd, hyy⟩ := own_form ho (by rw [List.length_map]; omega)
    simp only [Value.slice.injEq, Option.some.injEq, Addr.mk.injEq] at hvd
    have hbg : w.heap.size < b := by have := hvd.1.1; omega
    clear hvd hbd hxx hyy gd cd
    go_wp2_with fail
    (with_reducible refine (pick_any w.heap.size p2 (D.length : Int) _ h2 (by omega) (by omega) (by omega)).mono ?_)
    rintro _ w3 ⟨i, rfl, i0, i1, h3, k3⟩
    obtain ⟨m, rfl⟩ : ∃ m : Nat, i = (m : Int) := ⟨i.toNat, by omega⟩
    have o3 := own_grown ho k3 (by omega)
    have g3 := k3
    have s3 := k3.size
    obtain ⟨x, hx⟩ : ∃ x, D[m]? = some x := ⟨D[m], List.getElem?_eq_getElem (by omega)⟩
    (go_wp2_with fail; (with_reducible refine (sTreeProof_any _ D (m : Int) _ o3.rv (by omega)).mono ?_))
    rintro _ w4 ⟨vp, rfl, rp, b4⟩
    have o4 := o3.next b4 (Nat.le_refl _)
    have s4 := b4.size
    have h4 := h3.below b4 (by omega)
    have g4 : w2.grownBy w4 (some w.heap.size) := grown_trans g3 (grown_of_below b4)
    (go_wp2_with fail; (with_reducible refine (sTreeDigest_any _ D _ o4.rv (by omega)).mono ?_))
    rintro _ w5 ⟨rfl, b5⟩
    have o5 := o4.next b5 (Nat.le_refl _)
    have s5 := b5.size
    have h5 := h4.below b5 (by omega)
    have g5 : w2.grownBy w5 (some w.heap.size) := grown_trans g4 (grown_of_below b5)
    have rp5 := rp.next b5 (Nat.le_refl _)
    have hcx : w5.cell? ⟨b, off + m, none⟩ = some (.int .i64 x) := g5.cell (hcell m x hx) (by simp; omega)
    obtain ⟨t, ht⟩ : ∃ t, tdigest D = t := ⟨_, rfl⟩
    rw [ht]
    have hpl := tproof_len3 D (m : Int)
    have hmi : (0 : Int) ≤ (m : Int) := by omega
    have B5 : Below w.heap.size w w5 := B2'.trans (below_of_grown g5 (Nat.le_trans hgg B2'.size) (Nat.le_refl _))
    clear ht hx hcell hc2 o3 o4 b4 b5 h3 h4 k3 g3 g4 g5 rp B2 B2' h2
    go_wp2_with fail
    (with_reducible refine (pick_any w.heap.size (p2 + 1) 10 _ h5 (by omega) (by omega) (by omega)).mono ?_)
    rintro _ w6 ⟨y, rfl, y0, y1, h6, k6⟩
    have s6 := k6.size
    have rp6 := rp5.grown k6 (fun k hk => by simp at hk; omega)
    have B6 := B5.trans (below_of_grown k6 B5.size (by omega))
    rcases (show y = 0 ∨ y = 1 ∨ y = 2 ∨ y = 3 ∨ y = 4 ∨ y = 5 ∨ 6 ≤ y by omega) with rfl | rfl | rfl | rfl | rfl | rfl | hy
    · go_wp2_with fail
      (with_reducible refine (l91Digest_any w.heap.size _ _ h6 (by omega)).mono ?_)
      rintro _ w7 ⟨_, p7, rfl, hp7, h7, k7, z, rfl, _, _⟩
      go_wp2_with fail
      refine bodyPost_ret (v := .tuple #[.int .i64 (t), .int .i64 (D.length), .int .i64 (m), .int .i64 (z), vp]) (by simp [results, Try.results25, go_sem]) rfl ⟨_, _, _, _, _, tproof D (m : Int), rfl, by omega, (rp6.grown k7 (fun k hk => by simp at hk; omega)).wide (by omega) (by have := k7.size; omega), B6.trans (below_of_grown k7 B6.size (by omega))⟩
    · go_wp2_with fail
      (with_reducible refine (pick_any w.heap.size _ 18 _ h6 (by omega) (by omega) (by omega)).mono ?_)
      rintro _ w7 ⟨z, rfl, _, _, h7, k7⟩
      go_wp2_with fail
      refine bodyPost_ret (v := .tuple #[.int .i64 (t), .int .i64 (D.length), .int .i64 (z - 1), .int .i64 (x), vp]) (by simp [results, Try.results25, go_sem]) rfl ⟨_, _, _, _, _, tproof D (m : Int), rfl, by omega, (rp6.grown k7 (fun k hk => by simp at hk; omega)).wide (by omega) (by have := k7.size; omega), B6.trans (below_of_grown k7 B6.size (by omega))⟩
    · go_wp2_with fail
      (with_reducible refine (pick_any w.heap.size _ 19 _ h6 (by omega) (by omega) (by omega)).mono ?_)
      rintro _ w7 ⟨z, rfl, _, _, h7, k7⟩
      go_wp2_with fail
      refine bodyPost_ret (v := .tuple #[.int .i64 (t), .int .i64 (z - 1), .int .i64 (m), .int .i64 (x), vp]) (by simp [results, Try.results25, go_sem]) rfl ⟨_, _, _, _, _, tproof D (m : Int), rfl, by omega, (rp6.grown k7 (fun k hk => by simp at hk; omega)).wide (by omega) (by have := k7.size; omega), B6.trans (below_of_grown k7 B6.size (by omega))⟩
    · go_wp2_with fail
      (with_reducible refine (l91Bend_any w.heap.size _ vp (tproof D (m : Int)) w6.heap.size _ h6 (RV.mono rp6.rv (by omega)) (Nat.le_refl _) (by omega) (by omega)).mono ?_)
      rintro _ w7 ⟨vb, p7, rfl, hp7, h7, k7, Q, hQ, oQ⟩
      go_wp2_with fail
      refine bodyPost_ret (v := .tuple #[.int .i64 (t), .int .i64 (D.length), .int .i64 (m), .int .i64 (x), vb]) (by simp [results, Try.results25, go_sem]) rfl ⟨_, _, _, _, _, Q, rfl, by omega, (Row.of oQ).wide (by omega) (Nat.le_refl _), B6.trans (below_of_grown k7 B6.size (by omega))⟩
    · go_wp2_with fail
      (with_reducible refine (l91Bend_any w.heap.size _ vp (tproof D (m : Int)) w6.heap.size _ h6 (RV.mono rp6.rv (by omega)) (Nat.le_refl _) (by omega) (by omega)).mono ?_)
      rintro _ w7 ⟨vb, p7, rfl, hp7, h7, k7, Q, hQ, oQ⟩
      go_wp2_with fail
      refine bodyPost_ret (v := .tuple #[.int .i64 (t), .int .i64 (D.length), .int .i64 (m), .int .i64 (x), vb]) (by simp [results, Try.results25, go_sem]) rfl ⟨_, _, _, _, _, Q, rfl, by omega, (Row.of oQ).wide (by omega) (Nat.le_refl _), B6.trans (below_of_grown k7 B6.size (by omega))⟩
    · go_wp2_with fail
      (with_reducible refine (l91Digest_any w.heap.size _ _ h6 (by omega)).mono ?_)
      rintro _ w7 ⟨_, p7, rfl, hp7, h7, k7, z, rfl, _, _⟩
      go_wp2_with fail
      refine bodyPost_ret (v := .tuple #[.int .i64 (z), .int .i64 (D.length), .int .i64 (m), .int .i64 (x), vp]) (by simp [results, Try.results25, go_sem]) rfl ⟨_, _, _, _, _, tproof D (m : Int), rfl, by omega, (rp6.grown k7 (fun k hk => by simp at hk; omega)).wide (by omega) (by have := k7.size; omega), B6.trans (below_of_grown k7 B6.size (by omega))⟩
    · have y2 : (y == (0 : Int)) = false := beq_eq_false_iff_ne.2 (by omega)
      have y3 : (y == (1 : Int)) = false := beq_eq_false_iff_ne.2 (by omega)
      have y4 : (y == (2 : Int)) = false := beq_eq_false_iff_ne.2 (by omega)
      have y5 : (y == (3 : Int)) = false := beq_eq_false_iff_ne.2 (by omega)
      have y6 : (y == (4 : Int)) = false := beq_eq_false_iff_ne.2 (by omega)
      have y7 : (y == (5 : Int)) = false := beq_eq_false_iff_ne.2 (by omega)
      go_wp2_with fail
      refine bodyPost_ret (v := .tuple #[.int .i64 (t), .int .i64 (D.length), .int .i64 (m), .int .i64 (x), vp]) (by simp [results, Try.results25, go_sem]) rfl ⟨_, _, _, _, _, tproof D (m : Int), rfl, by omega, rp6.wide (by omega) (by omega), B6⟩
end Go.Proofs.Ytnhpilipkeddiaa
