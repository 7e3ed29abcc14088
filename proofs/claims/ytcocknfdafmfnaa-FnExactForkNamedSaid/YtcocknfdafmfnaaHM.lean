/- The walks of HeadMake. -/
import Derived.Test.YtcocknfdafmfnaaHead
import Derived.Test.YtcocknfdafmfnaaTD
import Derived.Handy
namespace Go.Proofs.Ytcocknfdafmfnaa
set_option linter.unusedVariables false
open Go.RowKit

theorem Box.set {w : World} {g : Nat} {t : TypeId} {cs : Array Value} (h : Box w g t cs) (i : Nat) (v : Value) : Box (w.setCell ⟨g, i, none⟩ v) g t (cs.setIfInBounds i v) := by
  unfold Box at *; rw [heap_setCell_same w g i _ _ _ h]
def hmB (s : Int) (L : List Int) : Bool := keyB s && leavesB L
def hmS (s : Int) (L : List Int) : Int := s * msg L.length (tdigest L) % 997
def head3 (a b c : Int) : Value := .agg #[.int .i64 a, .int .i64 b, .int .i64 c]
theorem tdigest_bd {L : List Int} (h : leavesB L = true) : digB (tdigest L) = true := by
  obtain ⟨h16, hd⟩ := leavesB_len h
  have e : tdigest L = foldD L.length (peaks L) := if_pos h
  rw [e]
  exact foldD_dig _ _ (digB_true.2 ⟨by omega, by omega⟩)
set_option maxHeartbeats 2000000 in
theorem sHeadMake_no (s : Int) (v : Value) (L : List Int) (w : World) (h : RV w w.heap.size v (L.map (Value.int .i64))) (hn : L.length ≤ 1048576) (hb : hmB s L = false) :
    Calls Try.prog 37 #[.int .i64 s, v] w fun e w' => e = .returned (.tuple #[head3 0 0 0, .bool false]) ∧ Below w.heap.size w w' := by
  unfold head3
  have rr := h
  obtain ⟨A, cap, rfl, hl, hm, hc⟩ := h
  rw [List.length_map] at rr hl ⊢
  clear hc
  have r1 := fun o => rr.below (bnew w o) (Nat.le_refl _)
  cases hk : keyB s
  · go_enter Try.func37, Try.ntmps37
    (go_wp2_with fail; (with_reducible refine (l3Key_b s false _ hk).mono ?_); rintro _ _ ⟨rfl, rfl⟩)
    go_wp2_with fail
    refine bodyPost_ret (v := .tuple #[.agg #[.int .i64 0, .int .i64 0, .int .i64 0], .bool false]) (by simp [results, Try.results37, go_sem]) rfl ⟨rfl, ?_⟩
    go_grown
  · have hl' : leavesB L = false := by unfold hmB at hb; rw [hk] at hb; exact hb
    go_enter Try.func37, Try.ntmps37
    (go_wp2_with fail; (with_reducible refine (l3Key_b s true _ hk).mono ?_); rintro _ _ ⟨rfl, rfl⟩)
    (go_wp2_with fail; (with_reducible refine (l2Leaves_b _ L _ _ false (r1 _) hn hl').mono ?_); rintro _ _ ⟨rfl, rfl⟩)
    go_wp2_with fail
    refine bodyPost_ret (v := .tuple #[.agg #[.int .i64 0, .int .i64 0, .int .i64 0], .bool false]) (by simp [results, Try.results37, go_sem]) rfl ⟨rfl, ?_⟩
    go_grown
set_option maxHeartbeats 4000000 in
theorem sHeadMake_yes (s : Int) (v : Value) (L : List Int) (w : World) (h : RV w w.heap.size v (L.map (Value.int .i64))) (hn : L.length ≤ 1048576) (hb : hmB s L = true) :
    Calls Try.prog 37 #[.int .i64 s, v] w fun e w' => e = .returned (.tuple #[head3 L.length (tdigest L) (hmS s L), .bool true]) ∧ Below w.heap.size w w' := by
  unfold head3
  have rr := h
  obtain ⟨A, cap, rfl, hl, hm, hc⟩ := h
  rw [List.length_map] at rr hl ⊢
  clear hc
  have r1 := fun o => rr.below (bnew w o) (Nat.le_refl _)
  unfold hmB at hb
  rw [Bool.and_eq_true] at hb
  obtain ⟨hk, hlv⟩ := hb
  obtain ⟨h16, hd⟩ := leavesB_len hlv
  have htd := tdigest_bd hlv
  obtain ⟨t, ht⟩ : ∃ t, tdigest L = t := ⟨_, rfl⟩
  have HT := hid' ht
  rw [ht] at htd
  obtain ⟨t0, t1⟩ := digB_true.1 htd
  obtain ⟨s0, s1⟩ := keyB_true.1 hk
  have m0 : 1 ≤ msg L.length t := by unfold msg; have := pr_nonneg L.length t; omega
  have m1 : msg L.length t ≤ 991 := by unfold msg; have := pr_le L.length t; omega
  obtain ⟨q0, q1⟩ := mul_bd s (msg L.length t) s0 s1 m0 m1
  have HS : Hid (hmS s L = s * msg L.length t % 997) := by unfold Hid hmS; rw [ht]
  rw [HT.out, HS.out]
  clear ht
  go_enter Try.func37, Try.ntmps37
  (go_wp2_with fail; (with_reducible refine (l3Key_b s true _ hk).mono ?_); rintro _ _ ⟨rfl, rfl⟩)
  (go_wp2_with fail; (with_reducible refine (l2Leaves_b _ L _ _ true (r1 _) hn hlv).mono ?_); rintro _ _ ⟨rfl, rfl⟩)
  (go_wp2_with fail; (with_reducible refine (sTreeDigest_any _ L _ (RV.mono (r1 _) (by simp)) hn).mono ?_))
  rintro _ w2 ⟨rfl, b2⟩
  rw [HT.out]
  have x1 := (Box.new w _ _).next b2
  obtain ⟨c0, c1, c2⟩ := x1.c3
  have f0 := x1.frozen 0
  have f1 := x1.frozen 1
  have f2 := x1.frozen 2
  have hlt2 := x1.lt
  have x3 : Box (((w2.setCell ⟨w.heap.size, 0, none⟩ (.int .i64 L.length)).setCell ⟨w.heap.size, 1, none⟩ (.int .i64 t)).setCell ⟨w.heap.size, 2, none⟩ (.int .i64 (s * msg L.length t % 997))) w.heap.size 24 #[.int .i64 L.length, .int .i64 t, .int .i64 (s * msg L.length t % 997)] := ((x1.set 0 (.int .i64 L.length)).set 1 (.int .i64 t)).set 2 (.int .i64 (s * msg L.length t % 997))
  have D0 := x3.c3.1
  have D1 := x3.c3.2.1
  have D2 := x3.c3.2.2
  have HD0 := hid' D0
  have HD1 := hid' D1
  have HD2 := hid' D2
  have B3 : Hid (Below w.heap.size w (((w2.setCell ⟨w.heap.size, 0, none⟩ (.int .i64 L.length)).setCell ⟨w.heap.size, 1, none⟩ (.int .i64 t)).setCell ⟨w.heap.size, 2, none⟩ (.int .i64 (s * msg L.length t % 997)))) :=
    have b3 : Below w.heap.size w w2 := bstep (bnew w _) b2
    ((b3.setCell (p := ⟨w.heap.size, 0, none⟩) (Nat.le_refl _) _).setCell (p := ⟨w.heap.size, 1, none⟩) (Nat.le_refl _) _).setCell (p := ⟨w.heap.size, 2, none⟩) (Nat.le_refl _) _
  clear x1 x3 D0 D1 D2
  (go_wp2_with fail; (with_reducible refine (l3Message_any (L.length : Int) t _ (by omega) (by omega) htd).mono ?_); rintro _ _ ⟨rfl, rfl⟩)
  go_wp2_with fail
  refine bodyPost_ret (v := .tuple #[.agg #[.int .i64 L.length, .int .i64 t, .int .i64 (s * msg L.length t % 997)], .bool true]) (by have D0 := HD0.out; have D1 := HD1.out; have D2 := HD2.out; simp [results, Try.results37, go_sem, D0, D1, D2]) rfl ⟨rfl, ?_⟩
  exact B3.out
end Go.Proofs.Ytcocknfdafmfnaa
