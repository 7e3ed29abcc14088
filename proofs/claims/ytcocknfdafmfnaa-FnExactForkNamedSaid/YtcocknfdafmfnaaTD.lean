/- The walks of TreePeaks and TreeDigest. -/
import Derived.Test.YtcocknfdafmfnaaPeaks
namespace Go.Proofs.Ytcocknfdafmfnaa
set_option linter.unusedVariables false
open Go.RowKit

theorem tr_all (a n : Nat) (ha : a ≤ 16) (hn : n ≤ 16) : (tr a n).length ≤ 16 ∧ (tr a n).all (fun t => decide (t.1 + 2 ^ t.2 ≤ n)) = true := by
  have : ∀ a : Fin 17, ∀ n : Fin 17, (tr a.1 n.1).length ≤ 16 ∧ (tr a.1 n.1).all (fun t => decide (t.1 + 2 ^ t.2 ≤ n.1)) = true := by decide +kernel
  exact this ⟨a, by omega⟩ ⟨n, by omega⟩
theorem tr_at {a n k : Nat} {t : Nat × Nat} (ha : a ≤ 16) (hn : n ≤ 16) (h : (tr a n)[k]? = some t) : t.1 + 2 ^ t.2 ≤ n := by
  have := List.all_eq_true.1 (tr_all a n ha hn).2 t (List.mem_of_getElem? h)
  exact of_decide_eq_true this
theorem digs_rts {L : List Int} (hd : digs L = true) : ∀ (D : List (Nat × Nat)), (∀ t ∈ D, t.1 + 2 ^ t.2 ≤ L.length) → digs (rts pr (lf L) D) = true
  | [], _ => rfl
  | t :: D, h => by
    have h1 := rt_dig hd t.2 t.1 (h t (by simp))
    have h2 := digs_rts hd D fun u hu => h u (by simp [hu])
    unfold digs rts at *
    rw [List.map_cons, List.all_cons, h1, h2]; rfl
theorem leavesB_len {L : List Int} (h : leavesB L = true) : L.length ≤ 16 ∧ digs L = true := by
  unfold leavesB at h
  rw [Bool.and_eq_true] at h
  exact ⟨of_decide_eq_true h.1, h.2⟩
theorem tpeaks_len (L : List Int) : (tpeaks L).length ≤ 16 := by
  unfold tpeaks
  split
  · rename_i h
    unfold peaks rts; rw [List.length_map]
    exact (tr_all 0 L.length (by omega) (leavesB_len h).1).1
  · simp
theorem tpeaks_digs (L : List Int) : digs (tpeaks L) = true := by
  unfold tpeaks
  split
  · rename_i h
    exact digs_rts (leavesB_len h).2 _ fun t ht => of_decide_eq_true (List.all_eq_true.1 (tr_all 0 L.length (by omega) (leavesB_len h).1).2 t ht)
  · rfl

theorem l2Cover_0 (v : Value) (L : List Int) (w : World) (hr : RV w w.heap.size v (L.map (Value.int .i64))) (hd : digs L = true) (h16 : L.length ≤ 16) :
    Calls Try.prog 64 #[v, .int .i64 0] w (NewRow w 3 ((rts pr (lf L) (tr 0 L.length)).map (Value.int .i64))) := l2Cover_any v L _ 0 w hr (Nat.le_refl _) hd h16 (by omega)
set_option maxHeartbeats 1000000 in
theorem sTreeDigest_any (v : Value) (L : List Int) (w : World) (h : RV w w.heap.size v (L.map (Value.int .i64))) (hn : L.length ≤ 1048576) :
    Calls Try.prog 50 #[v] w fun e w' => e = .returned (.int .i64 (tdigest L)) ∧ Below w.heap.size w w' := by
  have rr := h
  obtain ⟨A, cap, rfl, hl, hm, hc⟩ := h
  rw [List.length_map] at rr hl ⊢
  clear hc
  cases hb : leavesB L
  · have HP : Hid (tdigest L = -1) := by unfold Hid tdigest; rw [if_neg (by rw [hb]; decide)]
    rw [HP.out]
    go_enter Try.func50, Try.ntmps50
    (go_wp2_with fail; (with_reducible refine (l2Leaves_b _ L _ _ false rr hn hb).mono ?_); rintro _ _ ⟨rfl, rfl⟩)
    go_wp2_with fail
    go_ret
    exact ⟨rfl, Below.refl _ _⟩
  · have HP : Hid (tdigest L = foldD L.length (tpeaks L)) := by unfold Hid tdigest tpeaks; rw [if_pos hb, if_pos hb]
    have HQ : Hid (rts pr (lf L) (tr 0 L.length) = tpeaks L) := by unfold Hid tpeaks; rw [if_pos hb]; rfl
    rw [HP.out]
    obtain ⟨h16, hd⟩ := leavesB_len hb
    have hpl := tpeaks_len L
    go_enter Try.func50, Try.ntmps50
    (go_wp2_with fail; (with_reducible refine (l2Leaves_b _ L _ _ true rr hn hb).mono ?_); rintro _ _ ⟨rfl, rfl⟩)
    (go_wp2_with fail; (with_reducible refine (l2Cover_0 _ L _ rr hd h16).mono ?_))
    rintro _ w1 ⟨vr, rfl, hr, b1⟩
    rw [HQ.out] at hr
    (go_wp2_with fail; (with_reducible refine (l2Fold_any (L.length : Int) vr (tpeaks L) _ _ hr.rv (by omega) (tpeaks_digs L) (digB_true.2 ⟨by omega, by omega⟩)).mono ?_); rintro _ _ ⟨rfl, rfl⟩)
    go_wp2_with fail
    go_ret
    exact ⟨rfl, b1⟩
end Go.Proofs.Ytcocknfdafmfnaa
