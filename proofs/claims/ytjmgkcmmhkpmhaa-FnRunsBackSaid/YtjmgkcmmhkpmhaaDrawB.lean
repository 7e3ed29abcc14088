/- What the functions hand back that draw bits. -/
import Derived.Test.YtjmgkcmmhkpmhaaDraw
import Derived.Test.YtjmgkcmmhkpmhaaBitsOf
namespace Go.Proofs.Ytjmgkcmmhkpmhaa
set_option linter.unusedVariables false
open Go.RowKit

theorem grown_below {a b c : World} {row : Option Nat} (h : a.grownBy b row) (k : Below a.heap.size b c) : a.grownBy c row :=
  ⟨k.os.trans h.os, k.tape.trans h.tape, k.output.trans h.output, Nat.le_trans h.size k.size, fun i hi hne => (k.block i hi).trans (h.block i hi hne)⟩

def BitsQ (base : Nat) (v : Value) (w' : World) : Prop := ∃ L : List Bool, L.length ≤ 18 ∧ OW w' base 4 v (L.map Value.bool)
set_option maxHeartbeats 2000000 in
theorem l91Bits_any (g p : Nat) (w : World) (h : Rdr w g p) (hp : p ≤ 99000) : Calls Try.prog 46 #[.pointer (some ⟨g, 0, none⟩)] w (DrawPost g p 22 (BitsQ w.heap.size) w) := by
  have hgw := h.lt
  obtain ⟨j0, ji, jz0, jz1, jz2⟩ := info_parts infoBool
  go_enter Try.func46, Try.ntmps46
  go_wp2_with fail
  (with_reducible refine (pick_any g p 17 _ (h.alloc _) (by omega) (by omega) (by omega)).mono ?_)
  rintro _ w1 ⟨x, rfl, x0, x1, h1, k1⟩
  have o1 := own_grown (own_empty (w := w) (e := 4) (Nat.le_refl w.heap.size)) k1 hgw
  have K1 := grown_trans (World.grownBy_alloc w (.cells #[] 4) (some g)) k1
  go_wp2_with fail
  (with_reducible refine (pick_any g (p + 1) 24 _ h1 (by omega) (by omega) (by omega)).mono ?_)
  rintro _ w2 ⟨y, rfl, y0, y1, h2, k2⟩
  have o2 := own_grown o1 k2 hgw
  have K2 := grown_trans K1 k2
  clear o1 k1 k2 K1
  by_cases hy : y = 0
  · subst hy
    go_wp2_with fail
    (with_reducible refine (pick_any g (p + 2) 3 _ h2 (by omega) (by omega) (by omega)).mono ?_)
    rintro _ w3 ⟨z, rfl, z0, z1, h3, k3⟩
    have o3 := own_grown o2 k3 hgw
    go_wp2_with fail
    (with_reducible refine (pick_any g (p + 3) 2 _ h3 (by omega) (by omega) (by omega)).mono ?_)
    rintro _ w4 ⟨t, rfl, t0, t1, h4, k4⟩
    have o4 := own_grown o3 k4 hgw
    have K4 := grown_trans (grown_trans K2 k3) k4
    clear o2 o3 k3 k4 K2
    go_wp2_with fail
    go_loopw [3, 5, 6] (fun s c i wr => ∃ (k : Nat) (L : List Bool) (q : Nat) (b : Bool), (k : Int) ≤ 16 + z ∧ i = .int .i64 k ∧ c = .bool b ∧ L.length = k ∧ OW wr w.heap.size 4 s (L.map Value.bool) ∧ q ≤ p + 4 + k ∧ Rdr wr g q ∧ w.grownBy wr (some g)) (fun _ _ i _ => (16 + z - intOf i).toNat)
    case atStart => exact ⟨0, [], _, _, by omega, rfl, rfl, rfl, o4, by omega, h4, K4⟩
    case round =>
      obtain ⟨k, L, q, b, hk, rfl, rfl, hb, hown, hq, hr, hg⟩ := hrel
      have HB := hid' hb
      clear hb
      by_cases hlt : (k : Int) < 16 + z
      · go_wp2_with fail
        (with_reducible refine (pick_any g q 3 _ hr (by omega) (by omega) (by omega)).mono ?_)
        rintro _ w3 ⟨c, rfl, c0, c1, h3, k3⟩
        have hown3 := own_grown hown k3 hgw
        by_cases hc : c = 0
        · subst hc
          go_wp2_with (at_builtin; refine wpList_push _ rfl _ _ 22 rfl w.heap.size 4 j0 (.bool false) 1 Try.underlying22 ji jz0 jz1 jz2 rfl _ _ rfl hown3 _ rfl rfl (by rw [List.length_map, HB.out]; omega) (by decide) (Nat.le_trans hg.size k3.size) ?_; intro v' w4 hown4 hbel4)
          go_roundw
          case rel => exact ⟨k + 1, L ++ [!b], q + 1, !b, by omega, by go_num, rfl, by rw [List.length_append, HB.out]; rfl, by rw [List.map_append]; exact hown4, by omega, h3.below hbel4 hgw, grown_below (grown_trans hg k3) hbel4⟩
          case measure => simp [intOf]; omega
        · have hc' : (c == (0 : Int)) = false := by simp [hc]
          clear hc
          go_wp2_with (at_builtin; refine wpList_push _ rfl _ _ 22 rfl w.heap.size 4 j0 (.bool false) 1 Try.underlying22 ji jz0 jz1 jz2 rfl _ _ rfl hown3 _ rfl rfl (by rw [List.length_map, HB.out]; omega) (by decide) (Nat.le_trans hg.size k3.size) ?_; intro v' w4 hown4 hbel4)
          go_roundw
          case rel => exact ⟨k + 1, L ++ [b], q + 1, b, by omega, by go_num, rfl, by rw [List.length_append, HB.out]; rfl, by rw [List.map_append]; exact hown4, by omega, h3.below hbel4 hgw, grown_below (grown_trans hg k3) hbel4⟩
          case measure => simp [intOf]; omega
      · go_wp2_with fail
        go_ret
        exact ⟨_, q, rfl, by omega, hr, hg, L, by rw [HB.out]; omega, hown⟩
  · have hy' : (y == (0 : Int)) = false := by simp [hy]
    clear hy
    go_wp2_with fail
    (with_reducible refine (pick_any g (p + 2) 2 _ h2 (by omega) (by omega) (by omega)).mono ?_)
    rintro _ w4 ⟨t, rfl, t0, t1, h4, k4⟩
    have o4 := own_grown o2 k4 hgw
    have K4 := grown_trans K2 k4
    clear o2 k4 K2
    go_wp2_with fail
    go_loopw [3, 5, 6] (fun s c i wr => ∃ (k : Nat) (L : List Bool) (q : Nat) (b : Bool), (k : Int) ≤ x ∧ i = .int .i64 k ∧ c = .bool b ∧ L.length = k ∧ OW wr w.heap.size 4 s (L.map Value.bool) ∧ q ≤ p + 4 + k ∧ Rdr wr g q ∧ w.grownBy wr (some g)) (fun _ _ i _ => (x - intOf i).toNat)
    case atStart => exact ⟨0, [], _, _, by omega, rfl, rfl, rfl, o4, by omega, h4, K4⟩
    case round =>
      obtain ⟨k, L, q, b, hk, rfl, rfl, hb, hown, hq, hr, hg⟩ := hrel
      have HB := hid' hb
      clear hb
      by_cases hlt : (k : Int) < x
      · go_wp2_with fail
        (with_reducible refine (pick_any g q 3 _ hr (by omega) (by omega) (by omega)).mono ?_)
        rintro _ w3 ⟨c, rfl, c0, c1, h3, k3⟩
        have hown3 := own_grown hown k3 hgw
        by_cases hc : c = 0
        · subst hc
          go_wp2_with (at_builtin; refine wpList_push _ rfl _ _ 22 rfl w.heap.size 4 j0 (.bool false) 1 Try.underlying22 ji jz0 jz1 jz2 rfl _ _ rfl hown3 _ rfl rfl (by rw [List.length_map, HB.out]; omega) (by decide) (Nat.le_trans hg.size k3.size) ?_; intro v' w4 hown4 hbel4)
          go_roundw
          case rel => exact ⟨k + 1, L ++ [!b], q + 1, !b, by omega, by go_num, rfl, by rw [List.length_append, HB.out]; rfl, by rw [List.map_append]; exact hown4, by omega, h3.below hbel4 hgw, grown_below (grown_trans hg k3) hbel4⟩
          case measure => simp [intOf]; omega
        · have hc' : (c == (0 : Int)) = false := by simp [hc]
          clear hc
          go_wp2_with (at_builtin; refine wpList_push _ rfl _ _ 22 rfl w.heap.size 4 j0 (.bool false) 1 Try.underlying22 ji jz0 jz1 jz2 rfl _ _ rfl hown3 _ rfl rfl (by rw [List.length_map, HB.out]; omega) (by decide) (Nat.le_trans hg.size k3.size) ?_; intro v' w4 hown4 hbel4)
          go_roundw
          case rel => exact ⟨k + 1, L ++ [b], q + 1, b, by omega, by go_num, rfl, by rw [List.length_append, HB.out]; rfl, by rw [List.map_append]; exact hown4, by omega, h3.below hbel4 hgw, grown_below (grown_trans hg k3) hbel4⟩
          case measure => simp [intOf]; omega
      · go_wp2_with fail
        go_ret
        exact ⟨_, q, rfl, by omega, hr, hg, L, by rw [HB.out]; omega, hown⟩
/-- A list of bits is drawn: a new row. -/
def DrawnBits (w : World) (e : Ending) (w' : World) : Prop := ∃ (v : Value) (L : List Bool), e = .returned v ∧ L.length ≤ 18 ∧ Row w' w.heap.size w'.heap.size 4 v (L.map Value.bool) ∧ Below w.heap.size w w'
theorem DrawBitsCount_any (v : Value) (L : List Int) (w : World) (h : RV w w.heap.size v (L.map (Value.int .u8))) (hb : ∀ n ∈ L, (Lit.int .u8 n).wf = true) : Calls Try.prog 21 #[v] w (DrawnBits w) := by
  go_enter Try.func21, Try.ntmps21
  (go_wp2_with fail; (with_reducible refine (l6Open_any v L _ _ h hb (Nat.le_refl _)).mono ?_))
  rintro _ w1 ⟨rfl, h1, b1, _⟩
  go_wp2_with fail
  (with_reducible refine (l91Bits_any _ 0 _ h1 (by omega)).mono ?_)
  rintro _ w2 ⟨v, p', rfl, _, h2, k2, M, hM, ho⟩
  go_wp2_with fail
  go_ret
  exact ⟨_, M, rfl, hM, (Row.of ho).wide b1.size (Nat.le_refl _), b1.trans (below_of_grown k2 b1.size (Nat.le_refl _))⟩
theorem DrawBitsRuns_any (v : Value) (L : List Int) (w : World) (h : RV w w.heap.size v (L.map (Value.int .u8))) (hb : ∀ n ∈ L, (Lit.int .u8 n).wf = true) : Calls Try.prog 31 #[v] w (DrawnBits w) := by
  go_enter Try.func31, Try.ntmps31
  (go_wp2_with fail; (with_reducible refine (l6Open_any v L _ _ h hb (Nat.le_refl _)).mono ?_))
  rintro _ w1 ⟨rfl, h1, b1, _⟩
  go_wp2_with fail
  (with_reducible refine (l91Bits_any _ 0 _ h1 (by omega)).mono ?_)
  rintro _ w2 ⟨v, p', rfl, _, h2, k2, M, hM, ho⟩
  go_wp2_with fail
  go_ret
  exact ⟨_, M, rfl, hM, (Row.of ho).wide b1.size (Nat.le_refl _), b1.trans (below_of_grown k2 b1.size (Nat.le_refl _))⟩
def DrawnBits2 (w : World) (e : Ending) (w' : World) : Prop := ∃ (v v' : Value) (L M : List Bool) (m : Nat), e = .returned (.tuple #[v, v']) ∧ L.length ≤ 18 ∧ M.length ≤ 18 ∧ w.heap.size ≤ m ∧ m ≤ w'.heap.size ∧
  Row w' w.heap.size m 4 v (L.map Value.bool) ∧ Row w' m w'.heap.size 4 v' (M.map Value.bool) ∧ Below w.heap.size w w'
theorem DrawBitsWants_any (v : Value) (L : List Int) (w : World) (h : RV w w.heap.size v (L.map (Value.int .u8))) (hb : ∀ n ∈ L, (Lit.int .u8 n).wf = true) : Calls Try.prog 28 #[v] w (DrawnBits2 w) := by
  go_enter Try.func28, Try.ntmps28
  (go_wp2_with fail; (with_reducible refine (l6Open_any v L _ _ h hb (Nat.le_refl _)).mono ?_))
  rintro _ w1 ⟨rfl, h1, b1, s1⟩
  go_wp2_with fail
  (with_reducible refine (l91Bits_any _ 0 _ h1 (by omega)).mono ?_)
  rintro _ w2 ⟨v, p', rfl, _, h2, k2, M, hM, ho⟩
  have r2 := (Row.of ho).wide b1.size (Nat.le_refl _)
  go_wp2_with fail
  (with_reducible refine (l91Bits_any _ p' _ h2 (by omega)).mono ?_)
  rintro _ w3 ⟨v, p3, rfl, _, h3, k3, M', hM', ho'⟩
  have r3 := Row.of ho'
  have q : Row w3 w.heap.size w2.heap.size 4 _ _ := ((Row.of ho).grown k3 (fun k hk => by cases hk; exact .inl s1)).wide b1.size (Nat.le_refl _)
  go_wp2_with fail
  go_ret2
  exact ⟨_, _, M, M', w2.heap.size, rfl, hM, hM', Nat.le_trans b1.size k2.size, k3.size, q, r3, (b1.trans (below_of_grown k2 b1.size (Nat.le_refl _))).trans (below_of_grown k3 (Nat.le_trans b1.size k2.size) (Nat.le_refl _))⟩
end Go.Proofs.Ytjmgkcmmhkpmhaa
