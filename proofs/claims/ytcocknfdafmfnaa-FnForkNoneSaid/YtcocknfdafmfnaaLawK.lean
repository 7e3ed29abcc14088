/- The walks of laws on drawn proofs of forks. -/
import Derived.Test.YtcocknfdafmfnaaDrawF
namespace Go.Proofs.Ytcocknfdafmfnaa
set_option linter.unusedVariables false
open Go.RowKit
def DrawnFork (w : World) (e : Ending) (w' : World) : Prop := ∃ (p la da sa lb db sb : Int), e = .returned (fork7 p la da sa lb db sb) ∧ Below w.heap.size w w'
theorem DrawForkCheck_any (v : Value) (L : List Int) (w : World) (h : RV w w.heap.size v (L.map (Value.int .u8))) (hb : ∀ n ∈ L, (Lit.int .u8 n).wf = true) : Calls Try.prog 7 #[v] w (DrawnFork w) := by
  have xr0 := Box.new w 26 #[.int .i64 0, .int .i64 0, .int .i64 0, .int .i64 0, .int .i64 0, .int .i64 0, .int .i64 0]
  have ha := h.below (bnew w (.cells #[.int .i64 0, .int .i64 0, .int .i64 0, .int .i64 0, .int .i64 0, .int .i64 0, .int .i64 0] 26)) (Nat.le_refl _)
  go_enter Try.func7, Try.ntmps7
  (go_wp2_with fail; (with_reducible refine (l6Open_any v L _ _ ha hb (by simp)).mono ?_))
  rintro _ w1 ⟨rfl, h1, b1, _⟩
  have xr1 := xr0.next b1
  obtain ⟨g, hg⟩ : ∃ g, g = (w.alloc (.cells #[.int .i64 0, .int .i64 0, .int .i64 0, .int .i64 0, .int .i64 0, .int .i64 0, .int .i64 0] 26)).heap.size := ⟨_, rfl⟩
  have hgw : w.heap.size < g := by rw [hg]; simp
  have B1 : Below w.heap.size w w1 := bstep (bnew w _) b1
  rw [← hg] at h1 ⊢
  clear hg b1 xr0
  go_wp2_with fail
  (with_reducible refine (l91Fork_any _ 0 _ h1 (by omega)).mono ?_)
  rintro _ w2 ⟨p, la, da, sa, lb, db, sb, rfl, G⟩
  unfold fork7
  have xr2 := xr1.grown G (by omega)
  have B2 := B1.trans (below_of_grown G B1.size (by omega))
  clear xr1 G B1 h1
  obtain ⟨n0, n1, n2, n3, n4, n5, n6⟩ := xr2.c7
  have u0 := xr2.frozen 0
  have u1 := xr2.frozen 1
  have u2 := xr2.frozen 2
  have u3 := xr2.frozen 3
  have u4 := xr2.frozen 4
  have u5 := xr2.frozen 5
  have u6 := xr2.frozen 6
  have z3 := (((((((xr2.set 0 (.int .i64 p)).set 1 (.int .i64 la)).set 2 (.int .i64 da)).set 3 (.int .i64 sa)).set 4 (.int .i64 lb)).set 5 (.int .i64 db)).set 6 (.int .i64 sb))
  change Box _ _ _ #[.int .i64 p, .int .i64 la, .int .i64 da, .int .i64 sa, .int .i64 lb, .int .i64 db, .int .i64 sb] at z3
  obtain ⟨v0, v1, v2, v3, v4, v5, v6⟩ := z3.c7
  have V0 := hid' v0
  have V1 := hid' v1
  have V2 := hid' v2
  have V3 := hid' v3
  have V4 := hid' v4
  have V5 := hid' v5
  have V6 := hid' v6
  have GF := hid' (set_below (i := 6) (v := .int .i64 sb) (set_below (i := 5) (v := .int .i64 db) (set_below (i := 4) (v := .int .i64 lb) (set_below (i := 3) (v := .int .i64 sa) (set_below (i := 2) (v := .int .i64 da) (set_below (i := 1) (v := .int .i64 la) (set_below (i := 0) (v := .int .i64 p) B2 (Nat.le_refl _)) (Nat.le_refl _)) (Nat.le_refl _)) (Nat.le_refl _)) (Nat.le_refl _)) (Nat.le_refl _)) (Nat.le_refl _))
  clear v0 v1 v2 v3 v4 v5 v6 z3
  go_wp2_with fail
  refine bodyPost_ret (v := fork7 p la da sa lb db sb) (by have v0 := V0.out; have v1 := V1.out; have v2 := V2.out; have v3 := V3.out; have v4 := V4.out; have v5 := V5.out; have v6 := V6.out; simp [results, Try.results7, go_sem, fork7, v0, v1, v2, v3, v4, v5, v6]) rfl ⟨_, _, _, _, _, _, _, rfl, GF.out⟩
theorem fk_parts {p la da sa lb db sb : Int} (h : fkB p la da sa lb db sb = true) : hcB p la da sa = true ∧ hcB p lb db sb = true ∧ la = lb ∧ da ≠ db := by
  unfold fkB at h
  simpa using h
theorem fk_swap {p la da sa lb db sb : Int} (h : fkB p la da sa lb db sb = true) : fkB p lb db sb la da sa = true := by
  obtain ⟨h1, h2, h3, h4⟩ := fk_parts h
  subst h3
  unfold fkB
  simp [h1, h2, Ne.symm h4]
theorem fk_one (p la da sa : Int) : fkB p la da sa la da sa = false := by unfold fkB; simp
theorem fk_no {p la da sa lb db sb : Int} (h : fkB p la da sa lb db sb = false) (h1 : hcB p la da sa = true) (h2 : hcB p lb db sb = true) (h3 : la = lb) : da = db := by
  unfold fkB at h
  rw [h1, h2, h3] at h
  simpa using h
set_option maxHeartbeats 8000000 in
set_option maxRecDepth 100000 in
theorem walk_FnForkCheck (v0 : Value) (L0 : List Int) (w : World) (r0 : RV w w.heap.size v0 (L0.map (Value.int .u8))) (b0 : ∀ n ∈ L0, (Lit.int .u8 n).wf = true) :
    Calls Try.prog 3 #[v0] w fun e w' => e = .returned (.bool true) ∧ Below w.heap.size w w' := by
  have rr0 := r0
  obtain ⟨A0, cap0, rfl, hl0, hm0, hc0⟩ := r0
  rw [List.length_map] at rr0 hl0 ⊢
  clear hc0
  unfold maxLen at hm0
  rcases small_case L0.length with hb | hb0
  · go_enter Try.func3, Try.ntmps3
    go_wp2_with fail
    go_ret
    exact ⟨rfl, Below.refl _ _⟩
  · go_enter Try.func3, Try.ntmps3
    (go_wp2_with fail; (with_reducible refine (DrawForkCheck_any _ L0 _ rr0 b0).mono ?_))
    rintro _ w1 ⟨p, la, da, sa, lb, db, sb, rfl, bb⟩
    unfold fork7
    have x1 := Box.new w1 26 #[.int .i64 p, .int .i64 la, .int .i64 da, .int .i64 sa, .int .i64 lb, .int .i64 db, .int .i64 sb]
    have bx := bnew w1 (.cells #[.int .i64 p, .int .i64 la, .int .i64 da, .int .i64 sa, .int .i64 lb, .int .i64 db, .int .i64 sb] 26)
    obtain ⟨ok, hok⟩ : ∃ ok, fkB p la da sa lb db sb = ok := ⟨_, rfl⟩
    have HOK := hid' hok
    clear hok
    (go_wp2_with fail; (with_reducible refine (iForkCheck_b p la da sa lb db sb ok _ HOK.out).mono ?_))
    rintro _ w2 ⟨rfl, b2⟩
    have x2 := x1.next b2
    have bb2 := bstep (bstep bb bx) b2
    obtain ⟨c0, c1, c2, c3, c4, c5, c6⟩ := x2.c7
    (go_wp2_with fail; (with_reducible refine (sForkCheck_b p la da sa lb db sb ok _ HOK.out).mono ?_))
    rintro _ w3 ⟨rfl, b3⟩
    have x3 := x2.next b3
    have bb3 := bstep bb2 b3
    have bo1 : (ok != ok) = false := by simp
    have bo2 : (ok == ok) = true := by simp
    clear c0 c1 c2 c3 c4 c5 c6 x1 x2 b2 b3 bx bb2 bb
    obtain ⟨c0, c1, c2, c3, c4, c5, c6⟩ := x3.c7
    cases ok
    · go_wp2_with fail
      go_ret
      exact ⟨rfl, bb3⟩
    · obtain ⟨h1, h2, h3, h4⟩ := fk_parts HOK.out
      have h5 := fk_swap HOK.out
      subst h3
      have e1 : (da == db) = false := beq_eq_false_iff_ne.2 h4
      have e2 : (da != db) = true := by rw [bne, e1]; rfl
      have e3 : (la == la) = true := by simp
      have H1 := hid' h1
      have H2 := hid' h2
      have H5 := hid' h5
      clear h1 h2 h4 h5
      have y3 := Box.new w3 26 #[.int .i64 p, .int .i64 la, .int .i64 db, .int .i64 sb, .int .i64 la, .int .i64 da, .int .i64 sa]
      have x3a := x3.alloc (.cells #[.int .i64 p, .int .i64 la, .int .i64 db, .int .i64 sb, .int .i64 la, .int .i64 da, .int .i64 sa] 26)
      have bb4 := balloc bb3 (.cells #[.int .i64 p, .int .i64 la, .int .i64 db, .int .i64 sb, .int .i64 la, .int .i64 da, .int .i64 sa] 26)
      obtain ⟨d0, d1, d2, d3, d4, d5, d6⟩ := x3a.c7
      (go_wp2_with fail; (with_reducible refine (iHeadCheck_b p la da sa true _ H1.out).mono ?_))
      rintro _ w4 ⟨rfl, b4⟩
      have x4 := x3a.next b4
      have y4 := y3.next b4
      have bb5 := bstep bb4 b4
      clear c0 c1 c2 c3 c4 c5 c6 d0 d1 d2 d3 d4 d5 d6 x3 x3a y3 bb3 b4 bb4
      obtain ⟨c0, c1, c2, c3, c4, c5, c6⟩ := x4.c7
      (go_wp2_with fail; (with_reducible refine (iHeadCheck_b p la db sb true _ H2.out).mono ?_))
      rintro _ w5 ⟨rfl, b5⟩
      have x5 := x4.next b5
      have y5 := y4.next b5
      have bb6 := bstep bb5 b5
      clear c0 c1 c2 c3 c4 c5 c6 x4 y4 bb5 b5
      obtain ⟨c0, c1, c2, c3, c4, c5, c6⟩ := x5.c7
      obtain ⟨d0, d1, d2, d3, d4, d5, d6⟩ := y5.c7
      (go_wp2_with fail; (with_reducible refine (iForkCheck_b p la db sb la da sa true _ H5.out).mono ?_))
      rintro _ w6 ⟨rfl, b6⟩
      go_wp2_with fail
      go_ret
      exact ⟨rfl, bstep bb6 b6⟩
set_option maxHeartbeats 8000000 in
set_option maxRecDepth 100000 in
theorem walk_FnForkOne (v0 : Value) (L0 : List Int) (w : World) (r0 : RV w w.heap.size v0 (L0.map (Value.int .u8))) (b0 : ∀ n ∈ L0, (Lit.int .u8 n).wf = true) :
    Calls Try.prog 4 #[v0] w fun e w' => e = .returned (.bool true) ∧ Below w.heap.size w w' := by
  have rr0 := r0
  obtain ⟨A0, cap0, rfl, hl0, hm0, hc0⟩ := r0
  rw [List.length_map] at rr0 hl0 ⊢
  clear hc0
  unfold maxLen at hm0
  rcases small_case L0.length with hb | hb0
  · go_enter Try.func4, Try.ntmps4
    go_wp2_with fail
    go_ret
    exact ⟨rfl, Below.refl _ _⟩
  · go_enter Try.func4, Try.ntmps4
    (go_wp2_with fail; (with_reducible refine (DrawForkCheck_any _ L0 _ rr0 b0).mono ?_))
    rintro _ w1 ⟨p, la, da, sa, lb, db, sb, rfl, bb⟩
    unfold fork7
    have x1 := Box.new w1 26 #[.int .i64 p, .int .i64 la, .int .i64 da, .int .i64 sa, .int .i64 lb, .int .i64 db, .int .i64 sb]
    have bx := bnew w1 (.cells #[.int .i64 p, .int .i64 la, .int .i64 da, .int .i64 sa, .int .i64 lb, .int .i64 db, .int .i64 sb] 26)
    obtain ⟨ok, hok⟩ : ∃ ok, fkB p la da sa lb db sb = ok := ⟨_, rfl⟩
    have HOK := hid' hok
    clear hok
    (go_wp2_with fail; (with_reducible refine (iForkCheck_b p la da sa lb db sb ok _ HOK.out).mono ?_))
    rintro _ w2 ⟨rfl, b2⟩
    have x2 := x1.next b2
    have bb2 := bstep (bstep bb bx) b2
    obtain ⟨c0, c1, c2, c3, c4, c5, c6⟩ := x2.c7
    (go_wp2_with fail; (with_reducible refine (sForkCheck_b p la da sa lb db sb ok _ HOK.out).mono ?_))
    rintro _ w3 ⟨rfl, b3⟩
    have x3 := x2.next b3
    have bb3 := bstep bb2 b3
    have bo1 : (ok != ok) = false := by simp
    have bo2 : (ok == ok) = true := by simp
    clear c0 c1 c2 c3 c4 c5 c6 x1 x2 b2 b3 bx bb2 bb
    obtain ⟨c0, c1, c2, c3, c4, c5, c6⟩ := x3.c7
    have H1 := hid' (fk_one p la da sa)
    (go_wp2_with fail; (with_reducible refine (iForkCheck_b p la da sa la da sa false _ H1.out).mono ?_))
    rintro _ w4 ⟨rfl, b4⟩
    have x4 := x3.next b4
    have bb5 := bstep bb3 b4
    clear c0 c1 c2 c3 c4 c5 c6 x3 bb3 b4
    obtain ⟨c0, c1, c2, c3, c4, c5, c6⟩ := x4.c7
    cases ok
    · by_cases hd : da = db
      · have e1 : (da == db) = true := beq_iff_eq.2 hd
        clear hd
        go_wp2_with fail
        go_ret
        exact ⟨rfl, bb5⟩
      · have e1 : (da == db) = false := beq_eq_false_iff_ne.2 hd
        by_cases hl : la = lb
        · have e2 : (la == lb) = true := beq_iff_eq.2 hl
          have e3 : (la != lb) = false := by rw [bne, e2]; rfl
          cases ha : hcB p la da sa
          · have HA := hid' ha
            clear ha hl hd
            (go_wp2_with fail; (with_reducible refine (iHeadCheck_b p la da sa false _ HA.out).mono ?_))
            rintro _ w5 ⟨rfl, b5⟩
            go_wp2_with fail
            go_ret
            exact ⟨rfl, bstep bb5 b5⟩
          · cases hb : hcB p lb db sb
            · have HA := hid' ha
              have HB := hid' hb
              clear ha hb hl hd
              (go_wp2_with fail; (with_reducible refine (iHeadCheck_b p la da sa true _ HA.out).mono ?_))
              rintro _ w5 ⟨rfl, b5⟩
              have x5 := x4.next b5
              have bb6 := bstep bb5 b5
              clear c0 c1 c2 c3 c4 c5 c6 x4 bb5 b5
              obtain ⟨c0, c1, c2, c3, c4, c5, c6⟩ := x5.c7
              (go_wp2_with fail; (with_reducible refine (iHeadCheck_b p lb db sb false _ HB.out).mono ?_))
              rintro _ w6 ⟨rfl, b6⟩
              go_wp2_with fail
              go_ret
              exact ⟨rfl, bstep bb6 b6⟩
            · exact absurd (fk_no HOK.out ha hb hl) hd
        · have e2 : (la == lb) = false := beq_eq_false_iff_ne.2 hl
          have e3 : (la != lb) = true := by rw [bne, e2]; rfl
          clear hl hd
          go_wp2_with fail
          go_ret
          exact ⟨rfl, bb5⟩
    · go_wp2_with fail
      go_ret
      exact ⟨rfl, bb5⟩
end Go.Proofs.Ytcocknfdafmfnaa
