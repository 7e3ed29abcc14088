/- The walk that joins roots. -/
import Derived.Test.YtpbdehncmincaaaMap
import Derived.StillTailTactics
namespace Go.Proofs.Ytpbdehncmincaaa
set_option linter.unusedVariables false
open Go.RowKit

/-- the roots D suffice for the tree of height h at a -/
def cov (D : List (Nat × Nat)) : Nat → Nat → Bool
  | 0, a => D.contains (a, 0)
  | h + 1, a => D.contains (a, h + 1) || (cov D h a && cov D h (a + 2 ^ h))
theorem cov_ok (m n : Nat) (hn : n ≤ 16) (hm : m ≤ n) {t : Nat × Nat} (ht : t ∈ tr 0 n) : cov (grow m n) t.2 t.1 = true ∧ t.2 ≤ 4 ∧ t.1 + 2 ^ t.2 ≤ 16 := by
  have T : ∀ n : Fin 17, ∀ m : Fin 17, m.1 ≤ n.1 → (tr 0 n.1).all (fun t => cov (grow m.1 n.1) t.2 t.1 && decide (t.2 ≤ 4) && decide (t.1 + 2 ^ t.2 ≤ 16)) = true := by decide +kernel
  have h := List.all_eq_true.1 (T ⟨n, by omega⟩ ⟨m, by omega⟩ hm) t ht
  simp only [Bool.and_eq_true, decide_eq_true_iff] at h
  exact ⟨h.1.1, h.1.2, h.2⟩
theorem grow_nodup (m n : Nat) (hn : n ≤ 16) (hm : m ≤ n) {i j : Nat} {t : Nat × Nat} (hi : (grow m n)[i]? = some t) (hj : (grow m n)[j]? = some t) : i = j := by
  have T : ∀ n : Fin 17, ∀ m : Fin 17, m.1 ≤ n.1 → ∀ i : Fin 9, ∀ j : Fin 9, i.1 ≠ j.1 → ((grow m.1 n.1)[i.1]?).all (fun s => ((grow m.1 n.1)[j.1]?).all fun t => !(s == t)) = true := by decide +kernel
  have hl := (grow_len m n hn hm).1
  have lt : ∀ {k : Nat} {u : Nat × Nat}, (grow m n)[k]? = some u → k < 9 := fun {k u} h => by
    rcases Nat.lt_or_ge k 9 with h1 | h1
    · exact h1
    · rw [List.getElem?_eq_none (by omega)] at h; cases h
  rcases Nat.decEq i j with hne | he
  · have := T ⟨n, by omega⟩ ⟨m, by omega⟩ hm ⟨i, lt hi⟩ ⟨j, lt hj⟩ hne
    simp [hi, hj] at this
  · exact he
theorem findE_zip (t : Nat × Nat) (z : Int) : ∀ (D : List (Nat × Nat)) (l : List Int) (i : Nat), D.length = l.length →
    (D.contains t = true → ∃ k, findE t (D.zip l) i = some (k, l.getD (D.findIdx fun u => u == t) z)) ∧ (D.contains t = false → findE t (D.zip l) i = none)
  | [], _, i, _ => ⟨fun h => by simp at h, fun _ => rfl⟩
  | d :: D, x :: l, i, hl => by
    have ih := findE_zip t z D l (i + 1) (by simpa using hl)
    unfold findE
    rw [List.contains_cons, List.findIdx_cons]
    by_cases h : t = d
    · subst h
      refine ⟨fun _ => ⟨i, ?_⟩, fun h => by simp at h⟩
      simp
    · have h1 : (t == d) = false := by simp [h]
      have h2 : (d == t) = false := beq_eq_false_iff_ne.2 fun e => h e.symm
      simp only [List.zip_cons_cons, h1, h2, Bool.false_or, Bool.false_eq_true, if_false]
      refine ⟨fun hc => ?_, fun hc => ?_⟩
      · obtain ⟨k, hk⟩ := ih.1 hc
        exact ⟨k, by unfold findE at hk ⊢; rw [hk]; simp⟩
      · exact ih.2 hc
  | _ :: _, [], _, h => by simp at h
theorem jn_dig {D : List (Nat × Nat)} {l : List Int} (hd : digs l = true) : ∀ (h a : Nat), digB (jn pr D l 0 h a) = true
  | 0, a => digB_true.2 (lf_dig hd _)
  | h + 1, a => by
    unfold jn
    split
    · exact digB_true.2 (lf_dig hd _)
    · exact pr_dig _ _
/-- what the region of 'joined' reads, and what is kept -/
def JoinS (w0 : World) (b : Nat) (E : List ((Nat × Nat) × Int)) (W : World) : Prop := TMap W b E ∧ Below w0.heap.size w0 W ∧ b < w0.heap.size ∧ w0.heap.size < W.heap.size
theorem join_step {w0 w1 w2 : World} {b : Nat} {E : List ((Nat × Nat) × Int)} {x z : Int} (h : w1.cell? ⟨w0.heap.size, 0, none⟩ = some (.int .i64 x) ∧ w1.cell? ⟨w0.heap.size, 1, none⟩ = some (.int .i64 z) ∧ JoinS w0 b E w1) (hb : Below w1.heap.size w1 w2) :
    w2.cell? ⟨w0.heap.size, 0, none⟩ = some (.int .i64 x) ∧ w2.cell? ⟨w0.heap.size, 1, none⟩ = some (.int .i64 z) ∧ JoinS w0 b E w2 := by
  obtain ⟨c0, c1, t, bb, hlt, hs⟩ := h
  exact ⟨(hb.cell (p := ⟨w0.heap.size, 0, none⟩) hs).trans c0, (hb.cell (p := ⟨w0.heap.size, 1, none⟩) hs).trans c1, t.next hb, bstep bb hb, hlt, Nat.lt_of_lt_of_le hs hb.size⟩
theorem join_bel {w0 w1 : World} {b : Nat} {E : List ((Nat × Nat) × Int)} {x z : Int} (h : w1.cell? ⟨w0.heap.size, 0, none⟩ = some (.int .i64 x) ∧ w1.cell? ⟨w0.heap.size, 1, none⟩ = some (.int .i64 z) ∧ JoinS w0 b E w1) : Below w0.heap.size w0 w1 := h.2.2.2.1
set_option maxHeartbeats 8000000 in
theorem joined_any (D : List (Nat × Nat)) (l : List Int) (b : Nat) (hDl : D.length = l.length) (hd : digs l = true) : ∀ (h a : Nat) (x z : Int) (w : World), TMap w b (D.zip l) → cov D h a = true → h ≤ 4 → a + 2 ^ h ≤ 16 → x = (a : Int) → z = ((2 ^ h : Nat) : Int) →
    Calls Try.prog 41 #[.agg #[.int .i64 x, .int .i64 z], .map (some b)] w fun e w' => e = .returned (.int .i64 (jn pr D l 0 h a)) ∧ Below w.heap.size w w' := by
  have found : ∀ (h a : Nat) (x z : Int) (w : World), TMap w b (D.zip l) → D.contains (a, h) = true → x = (a : Int) → z = ((2 ^ h : Nat) : Int) →
      Calls Try.prog 41 #[.agg #[.int .i64 x, .int .i64 z], .map (some b)] w fun e w' => e = .returned (.int .i64 (l.getD (D.findIdx fun u => u == (a, h)) 0)) ∧ Below w.heap.size w w' := by
    intro h a x z w hm hc hx hz
    obtain ⟨k, hk⟩ := (findE_zip (a, h) 0 D l 0 hDl).1 hc
    have hlk := run_lookT (hm.next (bnew w (.cells #[.int .i64 x, .int .i64 z] 49))) (a, h)
    rw [hk] at hlk
    unfold keyN keyT at hlk
    simp only at hlk
    rw [← hx, ← hz] at hlk
    obtain ⟨y, hy⟩ : ∃ y, l.getD (D.findIdx fun u => u == (a, h)) 0 = y := ⟨_, rfl⟩
    rw [hy] at hlk ⊢
    clear hk hy hc hx hz hm
    go_enter Try.func41, Try.ntmps41
    go_wp2_with fail
    go_ret
    exact ⟨rfl, bnew w _⟩
  intro h
  induction h with
  | zero =>
    intro a x z w hm hc _ _ hx hz
    exact found 0 a x z w hm hc hx hz
  | succ h ih =>
    intro a x z w hm hc h4 hle hx hz
    cases hcc : D.contains (a, h + 1)
    · have HJ : Hid (jn pr D l 0 (h + 1) a = pr (jn pr D l 0 h a) (jn pr D l 0 h (a + 2 ^ h))) := by
        unfold Hid; rw [jn, if_neg (by rw [hcc]; decide)]
      unfold cov at hc
      rw [hcc, Bool.false_or, Bool.and_eq_true] at hc
      obtain ⟨q1, q2⟩ := hc
      have hno := (findE_zip (a, h + 1) 0 D l 0 hDl).2 hcc
      have hlk := run_lookT (hm.next (bnew w (.cells #[.int .i64 x, .int .i64 z] 49))) (a, h + 1)
      rw [hno] at hlk
      unfold keyN keyT at hlk
      simp only at hlk
      rw [← hx, ← hz] at hlk
      obtain ⟨y, hy⟩ : ∃ y : Int, y = ((2 ^ h : Nat) : Int) := ⟨_, rfl⟩
      have hpow : (2 : Nat) ^ (h + 1) = 2 * 2 ^ h := by rw [Nat.pow_succ, Nat.mul_comm]
      have hp0 : 0 < (2 : Nat) ^ h := Nat.pow_pos (by decide)
      rw [hpow] at hle hz
      have hzy : z / 2 = y := by omega
      have z0 : 2 ≤ z := by omega
      have z1 : z ≤ 16 := by omega
      have y0 : 1 ≤ y := by omega
      have y1 : y ≤ 8 := by omega
      have x0 : 0 ≤ x := by omega
      have x1 : x ≤ 16 := by omega
      have k1 : IntKind.i64.wrap (x + y) = x + y := IntWalk.i64_in _ (by omega)
      have S0 : (w.alloc (.cells #[.int .i64 x, .int .i64 z] 49)).drew.cell? ⟨w.heap.size, 0, none⟩ = some (.int .i64 x) ∧ (w.alloc (.cells #[.int .i64 x, .int .i64 z] 49)).drew.cell? ⟨w.heap.size, 1, none⟩ = some (.int .i64 z) ∧ JoinS w b (D.zip l) (w.alloc (.cells #[.int .i64 x, .int .i64 z] 49)).drew :=
        ⟨(Box.new w _ _).cell 0, (Box.new w _ _).cell 1, hm.below (bnew w _).drew hm.lt, (bnew w _).drew, hm.lt, by show w.heap.size < (w.alloc _).heap.size; simp⟩
      have I1 := hid' (fun (W : World) (r : W.cell? ⟨w.heap.size, 0, none⟩ = some (.int .i64 x) ∧ W.cell? ⟨w.heap.size, 1, none⟩ = some (.int .i64 z) ∧ JoinS w b (D.zip l) W) => ih a x y W r.2.2.1 q1 (by omega) (by omega) hx hy)
      have I2 := hid' (fun (W : World) (r : W.cell? ⟨w.heap.size, 0, none⟩ = some (.int .i64 x) ∧ W.cell? ⟨w.heap.size, 1, none⟩ = some (.int .i64 z) ∧ JoinS w b (D.zip l) W) => ih (a + 2 ^ h) (x + y) y W r.2.2.1 q2 (by omega) (by omega) (by omega) hy)
      have HD := hid' (dpair_ok (jn_dig (D := D) hd h a) (jn_dig (D := D) hd h (a + 2 ^ h)))
      rw [HJ.out]
      clear ih found hx hy hz hpow hp0 hm hno q1 q2 hcc HJ
      go_enter Try.func41, Try.ntmps41
      go_wp2_with fail
      go_region_held3 (fun w' => w'.cell? ⟨w.heap.size, 0, none⟩ = some (.int .i64 x) ∧ w'.cell? ⟨w.heap.size, 1, none⟩ = some (.int .i64 z) ∧ JoinS w b (D.zip l) w') (first | (exact join_step (by assumption) hb2) | (exact join_step (by assumption) hb1) | exact S0 | assumption)
        ((first | (go_at_call_of 41 (x + y); refine (I2.out _ (by assumption)).mono ?_; rintro _ w2 ⟨rfl, hb2⟩) | (go_at_call 41; refine (I1.out _ (by assumption)).mono ?_; rintro _ w1 ⟨rfl, hb1⟩) | (go_at_call 53; refine (iDigestPair_any _ _ _).mono ?_; rintro _ _ ⟨rfl, rfl⟩)))
      go_wp2_with fail
      go_ret
      exact ⟨retI HD.out, join_bel (by assumption)⟩
    · have HJ : Hid (jn pr D l 0 (h + 1) a = l.getD (D.findIdx fun u => u == (a, h + 1)) 0) := by
        unfold Hid; rw [jn, if_pos hcc]
      rw [HJ.out]
      exact found (h + 1) a x z w hm hcc hx hz
end Go.Proofs.Ytpbdehncmincaaa
