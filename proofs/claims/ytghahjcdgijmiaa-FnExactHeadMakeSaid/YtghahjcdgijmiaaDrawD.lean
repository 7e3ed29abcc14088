/- What the functions hand back that draw heads. -/
import Derived.Test.YtghahjcdgijmiaaDrawC
import Derived.Test.YtghahjcdgijmiaaHM
namespace Go.Proofs.Ytghahjcdgijmiaa
set_option linter.unusedVariables false
open Go.RowKit

theorem Box.grown {w w' : World} {k g : Nat} {t : TypeId} {cs : Array Value} (h : Box w k t cs) (hg : w.grownBy w' (some g)) (hk : k ≠ g) : Box w' k t cs := (hg.block k h.lt (by simp; omega)).trans h
theorem Box.setOther {w : World} {k g i : Nat} {t : TypeId} {cs : Array Value} {v : Value} (h : Box w k t cs) (hk : k ≠ g) : Box (w.setCell ⟨g, i, none⟩ v) k t cs := (heap_setCell_other w ⟨g, i, none⟩ k v (fun e => hk e)).trans h
/-- a head and whether it is there -/
def AnyHead (w : World) (e : Ending) (w' : World) : Prop := ∃ (a b c : Int) (ok : Bool), e = .returned (.tuple #[head3 a b c, .bool ok]) ∧ Below w.heap.size w w'
theorem sHeadMake_any (s : Int) (v : Value) (L : List Int) (w : World) (h : RV w w.heap.size v (L.map (Value.int .i64))) (hn : L.length ≤ 1048576) :
    Calls Try.prog 18 #[.int .i64 s, v] w (AnyHead w) := by
  cases hb : hmB s L
  · exact (sHeadMake_no s v L w h hn hb).mono fun e w' ⟨he, hb⟩ => ⟨_, _, _, _, he, hb⟩
  · exact (sHeadMake_yes s v L w h hn hb).mono fun e w' ⟨he, hb⟩ => ⟨_, _, _, _, he, hb⟩
def DrawnSL (w : World) (e : Ending) (w' : World) : Prop := ∃ (s : Int) (v : Value) (L : List Int), e = .returned (.tuple #[.int .i64 s, v]) ∧ L.length ≤ 28 ∧ leafy L ∧ Row w' w.heap.size w'.heap.size 3 v (L.map (Value.int .i64)) ∧ Below w.heap.size w w'
theorem DrawHeadMake_any (v : Value) (L : List Int) (w : World) (h : RV w w.heap.size v (L.map (Value.int .u8))) (hb : ∀ n ∈ L, (Lit.int .u8 n).wf = true) : Calls Try.prog 22 #[v] w (DrawnSL w) := by
  go_enter Try.func22, Try.ntmps22
  (go_wp2_with fail; (with_reducible refine (l6Open_any v L _ _ h hb (Nat.le_refl _)).mono ?_))
  rintro _ w1 ⟨rfl, h1, b1, _⟩
  go_wp2_with fail
  (with_reducible refine (l91Secret_any _ 0 _ h1 (by omega)).mono ?_)
  rintro _ w2 ⟨v, p', rfl, hp2, h2, k2, s, rfl, _, _⟩
  go_wp2_with fail
  (with_reducible refine (l91Leaves_any _ p' _ h2 (by omega)).mono ?_)
  rintro _ w3 ⟨v, p3, rfl, _, h3, k3, M, hM, hlf, ho⟩
  go_wp2_with fail
  go_ret2
  exact ⟨s, _, M, rfl, hM, hlf, (Row.of ho).wide (Nat.le_trans b1.size k2.size) (Nat.le_refl _), (b1.trans (below_of_grown k2 b1.size (Nat.le_refl _))).trans (below_of_grown k3 (Nat.le_trans b1.size k2.size) (Nat.le_refl _))⟩
def DrawnPH (w : World) (e : Ending) (w' : World) : Prop := ∃ (p a b c : Int), e = .returned (.tuple #[.int .i64 p, head3 a b c]) ∧ Below w.heap.size w w'
set_option maxHeartbeats 4000000 in
set_option maxRecDepth 100000 in
theorem DrawHeadCheck_any (v : Value) (L : List Int) (w : World) (h : RV w w.heap.size v (L.map (Value.int .u8))) (hb : ∀ n ∈ L, (Lit.int .u8 n).wf = true) : Calls Try.prog 15 #[v] w (DrawnPH w) := by
  have xr0 := Box.new w 26 #[.int .i64 0, .int .i64 0, .int .i64 0]
  have ha := h.below (bnew w (.cells #[.int .i64 0, .int .i64 0, .int .i64 0] 26)) (Nat.le_refl _)
  go_enter Try.func15, Try.ntmps15
  (go_wp2_with fail; (with_reducible refine (l6Open_any v L _ _ ha hb (by simp)).mono ?_))
  rintro _ w1 ⟨rfl, h1, b1, _⟩
  have xr1 := xr0.next b1
  obtain ⟨g, hg⟩ : ∃ g, g = (w.alloc (.cells #[.int .i64 0, .int .i64 0, .int .i64 0] 26)).heap.size := ⟨_, rfl⟩
  have hgw : w.heap.size < g := by rw [hg]; simp
  have B1 : Below w.heap.size w w1 := bstep (bnew w _) b1
  rw [← hg] at h1 ⊢
  clear hg b1 xr0
  go_wp2_with fail
  (with_reducible refine (l91Secret_any _ 0 _ h1 (by omega)).mono ?_)
  rintro _ w2 ⟨v2, p2, rfl, hp2, h2, k2, s, rfl, _, _⟩
  have xr2 := xr1.grown k2 (by omega)
  have B2 := B1.trans (below_of_grown k2 B1.size (by omega))
  clear k2 xr1 h1 B1
  go_wp2_with fail
  (with_reducible refine (l91Leaves_any _ p2 _ h2 (by omega)).mono ?_)
  rintro _ w3 ⟨v3, p3, rfl, hp3, h3, k3, M, hM, hlf, ho⟩
  have xr3 := xr2.grown k3 (by omega)
  have B3 := B2.trans (below_of_grown k3 B2.size (by omega))
  clear k3 xr2 h2 B2
  go_wp2_with fail
  (with_reducible refine (sHeadMake_any s v3 M _ ho.rv (by omega)).mono ?_)
  rintro _ w4 ⟨a, b, c, ok, rfl, b4⟩
  unfold head3
  have xr4 := (xr3.next b4).alloc (.cells #[.int .i64 a, .int .i64 b, .int .i64 c] 26)
  have h4 := (h3.below b4 h3.lt).alloc (.cells #[.int .i64 a, .int .i64 b, .int .i64 c] 26)
  have xh4 := Box.new w4 26 #[.int .i64 a, .int .i64 b, .int .i64 c]
  have hgh : g < w4.heap.size := (h3.below b4 h3.lt).lt
  have B4 := balloc (bstep B3 b4) (.cells #[.int .i64 a, .int .i64 b, .int .i64 c] 26)
  obtain ⟨q, hq⟩ : ∃ q, q = w4.heap.size := ⟨_, rfl⟩
  have hw4 := (bstep B3 b4).size
  clear xr3 h3 b4 ho
  (go_wp2_with fail; (with_reducible refine (sHeadPublic_any s _).mono ?_); rintro _ _ ⟨rfl, rfl⟩)
  go_wp2_with fail
  (with_reducible refine (pick_any g p3 8 _ h4 (by omega) (by omega) (by omega)).mono ?_)
  rintro _ w6 ⟨y, rfl, y0, y1, h6, k6⟩
  have xr6 := xr4.grown k6 (by omega)
  have xh6 := xh4.grown k6 (by omega)
  have B6 := B4.trans (below_of_grown k6 B4.size (by omega))
  rw [← hq] at xh6 ⊢
  have hqw : w.heap.size < q := by omega
  have hqg : g < q := by omega
  clear xr4 xh4 h4 B4 k6 hq hw4 hgh
  rcases (show y = 0 ∨ y = 1 ∨ y = 2 ∨ y = 3 ∨ 4 ≤ y by omega) with rfl | rfl | rfl | rfl | hy
  · skip
    go_wp2_with fail
    (with_reducible refine (l91Secret_any _ _ _ h6 (by omega)).mono ?_)
    rintro _ w7 ⟨v7, p7, rfl, hp7, h7, k7, t, rfl, _, _⟩
    have xr7 := xr6.grown k7 (by omega)
    have xh7 := xh6.grown k7 (by omega)
    have B7 := B6.trans (below_of_grown k7 B6.size (by omega))
    clear xr6 xh6 B6 k7 h6 h7
    obtain ⟨c0, c1, c2⟩ := xh7.c3
    obtain ⟨d0, d1, d2⟩ := xr7.c3
    have f0 := xr7.frozen 0
    have f1 := xr7.frozen 1
    have f2 := xr7.frozen 2
    have e0 := xh7.frozen 0
    have e1 := xh7.frozen 1
    have e2 := xh7.frozen 2
    have hne : w.heap.size ≠ q := by omega
    have hne' : q ≠ w.heap.size := by omega
    have z3 := ((xr7.set 0 (.int .i64 a)).set 1 (.int .i64 b)).set 2 (.int .i64 c)
    change Box _ _ _ #[.int .i64 a, .int .i64 b, .int .i64 c] at z3
    obtain ⟨v0, v1, v2⟩ := z3.c3
    have V0 := hid' v0
    have V1 := hid' v1
    have V2 := hid' v2
    have B9 := hid' ((((B7.setCell (p := ⟨w.heap.size, 0, none⟩) (Nat.le_refl _) (.int .i64 a)).setCell (p := ⟨w.heap.size, 1, none⟩) (Nat.le_refl _) (.int .i64 b)).setCell (p := ⟨w.heap.size, 2, none⟩) (Nat.le_refl _) (.int .i64 c)).drew)
    clear v0 v1 v2
    go_wp2_with fail
    go_region
    go_wp2_with fail
    refine bodyPost_ret (v := .tuple #[.int .i64 (t), .agg #[.int .i64 (a), .int .i64 (b), .int .i64 (c)]]) (by have v0 := V0.out; have v1 := V1.out; have v2 := V2.out; simp [results, Try.results15, go_sem, v0, v1, v2]) rfl ⟨t, a, b, c, rfl, B9.out⟩
  · skip
    go_wp2_with fail
    (with_reducible refine (l91Digest_any _ _ _ h6 (by omega)).mono ?_)
    rintro _ w7 ⟨v7, p7, rfl, hp7, h7, k7, t, rfl, _, _⟩
    have xr7 := xr6.grown k7 (by omega)
    have xh7 := xh6.grown k7 (by omega)
    have B7 := B6.trans (below_of_grown k7 B6.size (by omega))
    clear xr6 xh6 B6 k7 h6 h7
    have hne0 : w.heap.size ≠ q := by omega
    have g0 := xh7.frozen 1
    have u0 := xh7.c3
    obtain ⟨u1, u2, u3⟩ := u0
    have xh8 := xh7.set 1 (.int .i64 t)
    have xr8 := xr7.setOther (g := q) (i := 1) (v := .int .i64 t) hne0
    change Box _ _ _ #[.int .i64 a, .int .i64 t, .int .i64 c] at xh8
    have B8 := B7.setCell (p := ⟨q, 1, none⟩) (Nat.le_of_lt hqw) (.int .i64 t)
    obtain ⟨c0, c1, c2⟩ := xh8.c3
    obtain ⟨d0, d1, d2⟩ := xr8.c3
    have f0 := xr8.frozen 0
    have f1 := xr8.frozen 1
    have f2 := xr8.frozen 2
    have e0 := xh8.frozen 0
    have e1 := xh8.frozen 1
    have e2 := xh8.frozen 2
    have hne : w.heap.size ≠ q := by omega
    have hne' : q ≠ w.heap.size := by omega
    have z3 := ((xr8.set 0 (.int .i64 a)).set 1 (.int .i64 t)).set 2 (.int .i64 c)
    change Box _ _ _ #[.int .i64 a, .int .i64 t, .int .i64 c] at z3
    obtain ⟨v0, v1, v2⟩ := z3.c3
    have V0 := hid' v0
    have V1 := hid' v1
    have V2 := hid' v2
    have B9 := hid' ((((B8.setCell (p := ⟨w.heap.size, 0, none⟩) (Nat.le_refl _) (.int .i64 a)).setCell (p := ⟨w.heap.size, 1, none⟩) (Nat.le_refl _) (.int .i64 t)).setCell (p := ⟨w.heap.size, 2, none⟩) (Nat.le_refl _) (.int .i64 c)).drew)
    clear v0 v1 v2
    go_wp2_with fail
    go_region
    go_wp2_with fail
    refine bodyPost_ret (v := .tuple #[.int .i64 (hpub s), .agg #[.int .i64 (a), .int .i64 (t), .int .i64 (c)]]) (by have v0 := V0.out; have v1 := V1.out; have v2 := V2.out; simp [results, Try.results15, go_sem, v0, v1, v2]) rfl ⟨hpub s, a, t, c, rfl, B9.out⟩
  · skip
    go_wp2_with fail
    (with_reducible refine (pick_any g _ 19 _ h6 (by omega) (by omega) (by omega)).mono ?_)
    rintro _ w7 ⟨t, rfl, _, _, h7, k7⟩
    have xr7 := xr6.grown k7 (by omega)
    have xh7 := xh6.grown k7 (by omega)
    have B7 := B6.trans (below_of_grown k7 B6.size (by omega))
    clear xr6 xh6 B6 k7 h6 h7
    have hne0 : w.heap.size ≠ q := by omega
    have g0 := xh7.frozen 0
    have u0 := xh7.c3
    obtain ⟨u1, u2, u3⟩ := u0
    have xh8 := xh7.set 0 (.int .i64 (t - 1))
    have xr8 := xr7.setOther (g := q) (i := 0) (v := .int .i64 (t - 1)) hne0
    change Box _ _ _ #[.int .i64 (t - 1), .int .i64 b, .int .i64 c] at xh8
    have B8 := B7.setCell (p := ⟨q, 0, none⟩) (Nat.le_of_lt hqw) (.int .i64 (t - 1))
    obtain ⟨c0, c1, c2⟩ := xh8.c3
    obtain ⟨d0, d1, d2⟩ := xr8.c3
    have f0 := xr8.frozen 0
    have f1 := xr8.frozen 1
    have f2 := xr8.frozen 2
    have e0 := xh8.frozen 0
    have e1 := xh8.frozen 1
    have e2 := xh8.frozen 2
    have hne : w.heap.size ≠ q := by omega
    have hne' : q ≠ w.heap.size := by omega
    have z3 := ((xr8.set 0 (.int .i64 (t - 1))).set 1 (.int .i64 b)).set 2 (.int .i64 c)
    change Box _ _ _ #[.int .i64 (t - 1), .int .i64 b, .int .i64 c] at z3
    obtain ⟨v0, v1, v2⟩ := z3.c3
    have V0 := hid' v0
    have V1 := hid' v1
    have V2 := hid' v2
    have B9 := hid' ((((B8.setCell (p := ⟨w.heap.size, 0, none⟩) (Nat.le_refl _) (.int .i64 (t - 1))).setCell (p := ⟨w.heap.size, 1, none⟩) (Nat.le_refl _) (.int .i64 b)).setCell (p := ⟨w.heap.size, 2, none⟩) (Nat.le_refl _) (.int .i64 c)).drew)
    clear v0 v1 v2
    go_wp2_with fail
    go_region
    go_wp2_with fail
    refine bodyPost_ret (v := .tuple #[.int .i64 (hpub s), .agg #[.int .i64 ((t - 1)), .int .i64 (b), .int .i64 (c)]]) (by have v0 := V0.out; have v1 := V1.out; have v2 := V2.out; simp [results, Try.results15, go_sem, v0, v1, v2]) rfl ⟨hpub s, (t - 1), b, c, rfl, B9.out⟩
  · skip
    go_wp2_with fail
    (with_reducible refine (l91Secret_any _ _ _ h6 (by omega)).mono ?_)
    rintro _ w7 ⟨v7, p7, rfl, hp7, h7, k7, t, rfl, _, _⟩
    have xr7 := xr6.grown k7 (by omega)
    have xh7 := xh6.grown k7 (by omega)
    have B7 := B6.trans (below_of_grown k7 B6.size (by omega))
    clear xr6 xh6 B6 k7 h6 h7
    skip
    have hne0 : w.heap.size ≠ q := by omega
    have g0 := xh7.frozen 2
    have u0 := xh7.c3
    obtain ⟨u1, u2, u3⟩ := u0
    have xh8 := xh7.set 2 (.int .i64 t)
    have xr8 := xr7.setOther (g := q) (i := 2) (v := .int .i64 t) hne0
    change Box _ _ _ #[.int .i64 a, .int .i64 b, .int .i64 t] at xh8
    have B8 := B7.setCell (p := ⟨q, 2, none⟩) (Nat.le_of_lt hqw) (.int .i64 t)
    obtain ⟨c0, c1, c2⟩ := xh8.c3
    obtain ⟨d0, d1, d2⟩ := xr8.c3
    have f0 := xr8.frozen 0
    have f1 := xr8.frozen 1
    have f2 := xr8.frozen 2
    have e0 := xh8.frozen 0
    have e1 := xh8.frozen 1
    have e2 := xh8.frozen 2
    have hne : w.heap.size ≠ q := by omega
    have hne' : q ≠ w.heap.size := by omega
    have z3 := ((xr8.set 0 (.int .i64 a)).set 1 (.int .i64 b)).set 2 (.int .i64 t)
    change Box _ _ _ #[.int .i64 a, .int .i64 b, .int .i64 t] at z3
    obtain ⟨v0, v1, v2⟩ := z3.c3
    have V0 := hid' v0
    have V1 := hid' v1
    have V2 := hid' v2
    have B9 := hid' ((((B8.setCell (p := ⟨w.heap.size, 0, none⟩) (Nat.le_refl _) (.int .i64 a)).setCell (p := ⟨w.heap.size, 1, none⟩) (Nat.le_refl _) (.int .i64 b)).setCell (p := ⟨w.heap.size, 2, none⟩) (Nat.le_refl _) (.int .i64 t)).drew)
    clear v0 v1 v2
    go_wp2_with fail
    go_region
    go_wp2_with fail
    refine bodyPost_ret (v := .tuple #[.int .i64 (hpub s), .agg #[.int .i64 (a), .int .i64 (b), .int .i64 (t)]]) (by have v0 := V0.out; have v1 := V1.out; have v2 := V2.out; simp [results, Try.results15, go_sem, v0, v1, v2]) rfl ⟨hpub s, a, b, t, rfl, B9.out⟩
  · skip
    have y2 : (y == (0 : Int)) = false := beq_eq_false_iff_ne.2 (by omega)
    have y3 : (y == (1 : Int)) = false := beq_eq_false_iff_ne.2 (by omega)
    have y4 : (y == (2 : Int)) = false := beq_eq_false_iff_ne.2 (by omega)
    have y5 : (y == (3 : Int)) = false := beq_eq_false_iff_ne.2 (by omega)
    obtain ⟨c0, c1, c2⟩ := xh6.c3
    obtain ⟨d0, d1, d2⟩ := xr6.c3
    have f0 := xr6.frozen 0
    have f1 := xr6.frozen 1
    have f2 := xr6.frozen 2
    have e0 := xh6.frozen 0
    have e1 := xh6.frozen 1
    have e2 := xh6.frozen 2
    have hne : w.heap.size ≠ q := by omega
    have hne' : q ≠ w.heap.size := by omega
    have z3 := ((xr6.set 0 (.int .i64 a)).set 1 (.int .i64 b)).set 2 (.int .i64 c)
    change Box _ _ _ #[.int .i64 a, .int .i64 b, .int .i64 c] at z3
    obtain ⟨v0, v1, v2⟩ := z3.c3
    have V0 := hid' v0
    have V1 := hid' v1
    have V2 := hid' v2
    have B9 := hid' ((((B6.setCell (p := ⟨w.heap.size, 0, none⟩) (Nat.le_refl _) (.int .i64 a)).setCell (p := ⟨w.heap.size, 1, none⟩) (Nat.le_refl _) (.int .i64 b)).setCell (p := ⟨w.heap.size, 2, none⟩) (Nat.le_refl _) (.int .i64 c)).drew)
    clear v0 v1 v2
    go_wp2_with fail
    go_region
    go_wp2_with fail
    refine bodyPost_ret (v := .tuple #[.int .i64 (hpub s), .agg #[.int .i64 (a), .int .i64 (b), .int .i64 (c)]]) (by have v0 := V0.out; have v1 := V1.out; have v2 := V2.out; simp [results, Try.results15, go_sem, v0, v1, v2]) rfl ⟨hpub s, a, b, c, rfl, B9.out⟩
end Go.Proofs.Ytghahjcdgijmiaa
