/- The walks of the laws on bits over drawn bytes. -/
import Derived.Test.YtjmgkcmmhkpmhaaDrawB
import Derived.Test.YtjmgkcmmhkpmhaaPlainB2
namespace Go.Proofs.Ytjmgkcmmhkpmhaa
set_option linter.unusedVariables false
open Go.RowKit

theorem small_case (n : Nat) : 1048576 < n ∨ n ≤ 1048576 := by omega
theorem small_cases (n m : Nat) : 1048576 < n ∨ (n ≤ 1048576 ∧ 1048576 < m) ∨ (n ≤ 1048576 ∧ m ≤ 1048576) := by omega
theorem bcount_ok {L : List Bool} (h : L.length ≤ 16) : bcount L = (cnt L : Nat) := if_pos h
theorem bcount_no {L : List Bool} (h : 16 < L.length) : bcount L = -1 := if_neg (by omega)
theorem row_slice {w : World} {lo hi : Nat} {e : TypeId} {v : Value} {L : List Bool} (h : Row w lo hi e v (L.map Value.bool)) :
    ∃ A cap, v = .slice A L.length cap ∧ L.length ≤ cap ∧ cap ≤ maxLen ∧ (0 < L.length → ∃ b off, A = some ⟨b, off, none⟩ ∧ b < hi ∧ ∀ i x, L[i]? = some x → w.cell? ⟨b, off + i, none⟩ = some (.bool x)) := by
  obtain ⟨A, cap, hv, hl, hm, hc⟩ := h.rv
  rw [List.length_map] at hv hl hc
  refine ⟨A, cap, hv, hl, hm, fun h0 => ?_⟩
  obtain ⟨b, off, hA, hb, hcell⟩ := hc h0
  exact ⟨b, off, hA, hb, fun i x hx => hcell i _ (by rw [List.getElem?_map, hx]; rfl)⟩
theorem row_ints {w : World} {lo hi : Nat} {e : TypeId} {v : Value} {L : List Int} (h : Row w lo hi e v (L.map (Value.int .i64))) :
    ∃ A cap, v = .slice A L.length cap ∧ L.length ≤ cap ∧ cap ≤ maxLen ∧ (0 < L.length → ∃ b off, A = some ⟨b, off, none⟩ ∧ b < hi ∧ ∀ i x, L[i]? = some x → w.cell? ⟨b, off + i, none⟩ = some (.int .i64 x)) := by
  obtain ⟨A, cap, hv, hl, hm, hc⟩ := h.rv
  rw [List.length_map] at hv hl hc
  refine ⟨A, cap, hv, hl, hm, fun h0 => ?_⟩
  obtain ⟨b, off, hA, hb, hcell⟩ := hc h0
  exact ⟨b, off, hA, hb, fun i x hx => hcell i _ (by rw [List.getElem?_map, hx]; rfl)⟩
theorem runs_small (L : List Bool) : (runs L).length ≤ 1048576 := by
  unfold runs
  split
  · have h := rstate_bound L L.length
    rw [List.take_length] at h
    unfold runL
    split
    · rw [List.length_append, List.length_singleton]; omega
    · omega
  · simp
theorem runs_len (L : List Bool) : (runs L).length ≤ 33554432 := by have := runs_small L; omega
theorem runs_le (L : List Bool) : ∀ n ∈ runs L, 0 ≤ n ∧ n ≤ 16 := by
  intro n hn
  unfold runs at hn
  split at hn
  · rename_i h16
    obtain ⟨j, hj, rfl⟩ := List.mem_iff_getElem.1 hn
    have he := runs_expand h16
    have hr : runs L = runL (rstate L) := if_pos h16
    rw [← hr] at hj
    have h0 := runs_nonneg h16 j hj
    have e1 := expand_le (runs L) (show j + 1 ≤ (runs L).length by omega)
    rw [he, expand_succ_len] at e1
    have hg : (runs L).getD j 0 = (runL (rstate L))[j] := by
      rw [List.getD_eq_getElem?_getD, List.getElem?_eq_getElem hj]
      simp only [Option.getD_some]
      congr 1
    rw [hg] at h0 e1
    omega
  · cases hn
theorem runs_wf (L : List Bool) : ∀ n ∈ runs L, (Lit.int .i64 n).wf = true := fun n hn => by
  obtain ⟨a, b⟩ := runs_le L n hn
  exact WalkArith.wf_i64 (by omega)
theorem cnt_set {L : List Bool} {k : Nat} {x : Bool} (h : L[k]? = some x) : cnt (L.set k true) = cnt L + if x = true then 0 else 1 := by
  have hlt : k < L.length := by
    rcases Nat.lt_or_ge k L.length with h' | h'
    · exact h'
    · rw [List.getElem?_eq_none h'] at h; cases h
  rw [List.getElem?_eq_getElem hlt] at h
  simp only [Option.some.injEq] at h
  have e1 : L = L.take k ++ L[k] :: L.drop (k + 1) := by rw [← List.drop_eq_getElem_cons hlt, List.take_append_drop]
  have e2 : L.set k true = L.take k ++ true :: L.drop (k + 1) := by
    rw [List.set_eq_take_append_cons_drop, if_pos hlt]
  have c1 : cnt L = cnt (L.take k ++ L[k] :: L.drop (k + 1)) := congrArg cnt e1
  rw [c1, e2, h]
  unfold cnt
  rw [List.count_append, List.count_append, List.count_cons, List.count_cons]
  cases x <;> simp <;> omega
theorem own_at {α : Type} {con : α → Value} {w : World} {base k : Nat} {e : TypeId} {v : Value} {D : List α} {x : α} (h : OW w base e v (D.map con)) (hx : D[k]? = some x) :
    ∃ g cap, v = .slice (some ⟨g, 0, none⟩) D.length cap ∧ D.length ≤ cap ∧ w.cell? ⟨g, k, none⟩ = some (con x) ∧ w.frozen? ⟨g, k, none⟩ = false ∧ base ≤ g ∧
      ∀ y, OW (w.setCell ⟨g, k, none⟩ (con y)) base e v ((D.set k y).map con) ∧ Below base w (w.setCell ⟨g, k, none⟩ (con y)) := by
  have hlt : k < D.length := by
    rcases Nat.lt_or_ge k D.length with h' | h'
    · exact h'
    · rw [List.getElem?_eq_none h'] at hx; cases hx
  obtain ⟨g, cap, rfl, hc, hb, hg⟩ := own_form h (by rw [List.length_map]; omega)
  have h' := h
  unfold OW at h'
  rw [List.length_map] at h' hc ⊢
  refine ⟨g, cap, rfl, hc, ?_, h'.frozenAt _, hb, fun y => ⟨?_, (Below.refl _ _).setCell hb _⟩⟩
  · rw [h'.cellAt _ (by omega), List.getElem?_map, hx]; rfl
  · have := (h'.stored k (con y)).1
    rw [← List.map_set] at this
    exact OW.len this
theorem cnt_parts (L : List Bool) (k : Nat) : cnt (L.take k) + cnt (L.drop k) = cnt L := by
  unfold cnt; rw [← List.count_append, List.take_append_drop]
theorem wants_self (L : List Bool) : wants L L = [] := by
  unfold wants
  split
  · have : wantsN L L L.length = [] := by
      unfold wantsN
      rw [List.filter_eq_nil_iff]
      intro i _
      simp
    rw [this]; rfl
  · rfl
theorem wantsN_nil (L : List Bool) : ∀ k, k ≤ L.length → (wantsN L [] k).length = cnt (L.take k)
  | 0, _ => rfl
  | k + 1, h => by
    have hk : L[k]? = some L[k] := List.getElem?_eq_getElem (by omega)
    rw [wantsN_succ, List.length_append, wantsN_nil L k (by omega), cnt_take hk, List.getD_eq_getElem?_getD, hk]
    cases L[k] <;> simp
theorem wants_nil {L : List Bool} (h : L.length ≤ 16) : (wants L []).length = cnt L := by
  unfold wants
  rw [if_pos ⟨h, Nat.zero_le _⟩, List.length_map, wantsN_nil L _ (Nat.le_refl _), List.take_length]
/-- the bits that both have, among the first k -/
def bothN (A B : List Bool) : Nat → Nat
  | 0 => 0
  | k + 1 => if (A.getD k false && B.getD k false) = true then bothN A B k + 1 else bothN A B k
theorem bothN_le (A B : List Bool) : ∀ k, bothN A B k ≤ k
  | 0 => Nat.le_refl _
  | k + 1 => by
    have := bothN_le A B k
    unfold bothN
    split <;> omega
theorem wants_both (A B : List Bool) : ∀ k, k ≤ A.length → (wantsN A B k).length + bothN A B k = cnt (A.take k)
  | 0, _ => rfl
  | k + 1, h => by
    have hk : A[k]? = some A[k] := List.getElem?_eq_getElem (by omega)
    have ih := wants_both A B k (by omega)
    have ha : A.getD k false = A[k] := by rw [List.getD_eq_getElem?_getD, hk]; rfl
    rw [wantsN_succ, List.length_append, cnt_take hk]
    unfold bothN
    rw [ha]
    cases A[k] <;> cases B.getD k false <;> simp <;> omega
theorem bothN_stop (A B : List Bool) : ∀ k j, (B.length ≤ k ∨ A.length ≤ k) → bothN A B (k + j) = bothN A B k
  | k, 0, _ => rfl
  | k, j + 1, h => by
    have ih := bothN_stop A B k j h
    show (if (A.getD (k + j) false && B.getD (k + j) false) = true then bothN A B (k + j) + 1 else bothN A B (k + j)) = _
    have : (A.getD (k + j) false && B.getD (k + j) false) = false := by
      rcases h with h | h
      · have : B.getD (k + j) false = false := by rw [List.getD_eq_getElem?_getD, List.getElem?_eq_none (by omega)]; rfl
        rw [this, Bool.and_false]
      · have : A.getD (k + j) false = false := by rw [List.getD_eq_getElem?_getD, List.getElem?_eq_none (by omega)]; rfl
        rw [this, Bool.false_and]
    rw [this, ih]; rfl
theorem wants_ok {A B : List Bool} (ha : A.length ≤ 16) (hb : B.length ≤ 16) : wants A B = (wantsN A B A.length).map (fun n : Nat => (n : Int)) := if_pos ⟨ha, hb⟩
theorem wants_total {A B : List Bool} (ha : A.length ≤ 16) (hb : B.length ≤ 16) : (wants A B).length + bothN A B A.length = cnt A := by
  rw [wants_ok ha hb, List.length_map]
  have := wants_both A B A.length (Nat.le_refl _)
  rwa [List.take_length] at this
theorem wants_has {A B : List Bool} (ha : A.length ≤ 16) (hb : B.length ≤ 16) (i : Nat) : decide ((i : Int) ∈ wants A B) = (A.getD i false && !(B.getD i false)) := by
  rw [wants_ok ha hb]
  rw [Bool.eq_iff_iff, decide_eq_true_iff, List.mem_map]
  constructor
  · rintro ⟨n, hn, hni⟩
    have : n = i := by omega
    subst this
    unfold wantsN at hn
    exact (List.mem_filter.1 hn).2
  · intro h
    refine ⟨i, ?_, rfl⟩
    unfold wantsN
    refine List.mem_filter.2 ⟨?_, h⟩
    rw [List.mem_range]
    rcases Nat.lt_or_ge i A.length with h1 | h1
    · exact h1
    · rw [List.getD_eq_getElem?_getD, List.getElem?_eq_none h1] at h; simp at h
theorem wants_sorted {A B : List Bool} (ha : A.length ≤ 16) (hb : B.length ≤ 16) {i : Nat} {x y : Int} (hx : (wants A B)[i]? = some x) (hy : (wants A B)[i + 1]? = some y) : x < y := by
  have hp : (wants A B).Pairwise (· < ·) := by
    rw [wants_ok ha hb]
    unfold wantsN
    refine List.Pairwise.map _ (fun a b h => by omega) ((List.pairwise_lt_range (n := A.length)).filter _)
  have h1 : i < (wants A B).length := by
    rcases Nat.lt_or_ge i (wants A B).length with h | h
    · exact h
    · rw [List.getElem?_eq_none h] at hx; cases hx
  have h2 : i + 1 < (wants A B).length := by
    rcases Nat.lt_or_ge (i + 1) (wants A B).length with h | h
    · exact h
    · rw [List.getElem?_eq_none h] at hy; cases hy
  rw [List.getElem?_eq_getElem h1] at hx
  rw [List.getElem?_eq_getElem h2] at hy
  simp only [Option.some.injEq] at hx hy
  rw [← hx, ← hy]
  exact List.pairwise_iff_getElem.1 hp i (i + 1) h1 h2 (by omega)
set_option maxHeartbeats 4000000 in
set_option maxRecDepth 100000 in
theorem walk_FnWantsNone (v0 : Value) (L0 : List Int) (w : World) (r0 : RV w w.heap.size v0 (L0.map (Value.int .u8))) (b0 : ∀ n ∈ L0, (Lit.int .u8 n).wf = true) :
    Calls Try.prog 6 #[v0] w fun e w' => e = .returned (.bool true) ∧ Below w.heap.size w w' := by
  have rr0 := r0
  obtain ⟨A0, cap0, rfl, hl0, hm0, hc0⟩ := r0
  rw [List.length_map] at rr0 hl0 ⊢
  clear hc0
  unfold maxLen at hm0
  rcases small_case L0.length with hb | hb0
  · go_enter Try.func6, Try.ntmps6
    go_wp2_with fail
    go_ret
    exact ⟨rfl, Below.refl _ _⟩
  · go_enter Try.func6, Try.ntmps6
    (go_wp2_with fail; (with_reducible refine (DrawBitsCount_any _ L0 _ rr0 b0).mono ?_))
    rintro _ w1 ⟨v, D, rfl, hD, rD, bb⟩
    have s1 := bb.size
    obtain ⟨AD, cD, rfl, hDl, hDm, hDc⟩ := row_slice rD
    have rv := RV.mono (B' := w1.heap.size) rD.rv (by omega)
    by_cases h16 : 16 < D.length
    · have hb := bcount_no h16
      (go_wp2_with fail; (with_reducible refine (iBitsCount_any _ D _ _ rv (by omega)).mono ?_); rintro _ _ ⟨rfl, rfl⟩)
      (go_wp2_with fail; (with_reducible refine (sBitsCount_any _ D _ _ rv (by omega)).mono ?_); rintro _ _ ⟨rfl, rfl⟩)
      go_wp2_with fail
      go_ret
      exact ⟨rfl, bb⟩
    · have hb := bcount_ok (L := D) (by omega)
      have HN := hid' (wants_nil (L := D) (by omega))
      (go_wp2_with fail; (with_reducible refine (iBitsCount_any _ D _ _ rv (by omega)).mono ?_); rintro _ _ ⟨rfl, rfl⟩)
      (go_wp2_with fail; (with_reducible refine (sBitsCount_any _ D _ _ rv (by omega)).mono ?_); rintro _ _ ⟨rfl, rfl⟩)
      (go_wp2_with fail; (with_reducible refine (iBitsWants_any _ _ D D _ rv rv (by omega) (by omega)).mono ?_))
      rintro _ w2 ⟨v2, rfl, r2, b2⟩
      rw [wants_self] at r2
      obtain ⟨A2, c2, rfl, _⟩ := row_ints r2
      have s2 := b2.size
      replace rv := RV.mono (B' := w2.heap.size) (rv.below b2 (by omega)) (by omega)
      clear hDc
      have rn : RV (w2.alloc (.cells #[] 4)) (w2.alloc (.cells #[] 4)).heap.size (.slice (some ⟨w2.heap.size, 0, none⟩) 0 0) (([] : List Bool).map Value.bool) := RV.nil_ _ _ _ _ (Nat.zero_le _)
      have rv2 : RV (w2.alloc (.cells #[] 4)) (w2.alloc (.cells #[] 4)).heap.size (.slice AD D.length cD) (D.map Value.bool) := RV.mono (rv.below (bnew w2 _) (Nat.le_refl _)) (by simp)
      go_wp2_with fail
      (with_reducible refine (iBitsWants_any _ _ D [] _ rv2 rn (by omega) (by simp)).mono ?_)
      rintro _ w3 ⟨v3, rfl, r3, b3⟩
      obtain ⟨A3, c3, rfl, _⟩ := row_ints r3
      have HN' := HN.out
      go_wp2_with fail
      go_ret
      exact ⟨rfl, bstep (balloc (bstep bb b2) _) b3⟩
set_option maxHeartbeats 4000000 in
set_option maxRecDepth 100000 in
theorem walk_FnRuns (v0 : Value) (L0 : List Int) (w : World) (r0 : RV w w.heap.size v0 (L0.map (Value.int .u8))) (b0 : ∀ n ∈ L0, (Lit.int .u8 n).wf = true) :
    Calls Try.prog 14 #[v0] w fun e w' => e = .returned (.bool true) ∧ Below w.heap.size w w' := by
  have rr0 := r0
  obtain ⟨A0, cap0, rfl, hl0, hm0, hc0⟩ := r0
  rw [List.length_map] at rr0 hl0 ⊢
  clear hc0
  unfold maxLen at hm0
  rcases small_case L0.length with hb | hb0
  · go_enter Try.func14, Try.ntmps14
    go_wp2_with fail
    go_ret
    exact ⟨rfl, Below.refl _ _⟩
  · go_enter Try.func14, Try.ntmps14
    (go_wp2_with fail; (with_reducible refine (DrawBitsRuns_any _ L0 _ rr0 b0).mono ?_))
    rintro _ w1 ⟨v, D, rfl, hD, rD, bb⟩
    have s1 := bb.size
    obtain ⟨AD, cD, rfl, hDl, hDm, hDc⟩ := row_slice rD
    have rv := RV.mono (B' := w1.heap.size) rD.rv (by omega)
    have hrl := runs_len D
    by_cases h16 : 16 < D.length
    · clear hDc
      (go_wp2_with fail; (with_reducible refine (iBitsRuns_any _ D _ rv (by omega)).mono ?_))
      rintro _ w2 ⟨v2, rfl, r2, b2⟩
      have s2 := b2.size
      replace rv := RV.mono (B' := w2.heap.size) (rv.below b2 (by omega)) (by omega)
      (go_wp2_with fail; (with_reducible refine (sBitsRuns_any _ D _ rv (by omega)).mono ?_))
      rintro _ w3 ⟨v3, rfl, r3, b3⟩
      have s3 := b3.size
      replace r2 := r2.next b3 (by omega)
      (go_wp2_with fail; (with_reducible refine (sameInts_any _ _ (runs D) (runs D) _ _ true (RV.mono (B' := w3.heap.size) r2.rv (by omega)) (RV.mono (B' := w3.heap.size) r3.rv (by omega)) (Nat.le_refl _) hrl (eqI_self _)).mono ?_))
      rintro _ w4 ⟨rfl, b4⟩
      have s4 := b4.size
      replace r2 := r2.next b4 (by omega)
      replace r3 := r3.next b4 (by omega)
      (go_wp2_with fail; (with_reducible refine (sameInts_any _ _ (runs D) (runs D) _ _ true (RV.mono (B' := w4.heap.size) r2.rv (by omega)) (RV.mono (B' := w4.heap.size) r3.rv (by omega)) (Nat.le_refl _) hrl (eqI_self _)).mono ?_))
      rintro _ w5 ⟨rfl, b5⟩
      go_wp2_with fail
      go_ret
      exact ⟨rfl, bstep (bstep (bstep (bstep bb b2) b3) b4) b5⟩
    · have HL := hid' (runs_law (L := D) (by omega))
      clear hDc
      (go_wp2_with fail; (with_reducible refine (iBitsRuns_any _ D _ rv (by omega)).mono ?_))
      rintro _ w2 ⟨v2, rfl, r2, b2⟩
      have s2 := b2.size
      replace rv := RV.mono (B' := w2.heap.size) (rv.below b2 (by omega)) (by omega)
      (go_wp2_with fail; (with_reducible refine (sBitsRuns_any _ D _ rv (by omega)).mono ?_))
      rintro _ w3 ⟨v3, rfl, r3, b3⟩
      have s3 := b3.size
      replace r2 := r2.next b3 (by omega)
      replace rv := RV.mono (B' := w3.heap.size) (rv.below b3 (by omega)) (by omega)
      (go_wp2_with fail; (with_reducible refine (sameInts_any _ _ (runs D) (runs D) _ _ true (RV.mono (B' := w3.heap.size) r2.rv (by omega)) (RV.mono (B' := w3.heap.size) r3.rv (by omega)) (Nat.le_refl _) hrl (eqI_self _)).mono ?_))
      rintro _ w4 ⟨rfl, b4⟩
      have s4 := b4.size
      replace r2 := r2.next b4 (by omega)
      replace rv := RV.mono (B' := w4.heap.size) (rv.below b4 (by omega)) (by omega)
      (go_wp2_with fail; (with_reducible refine (iBitsOf_any _ (runs D) _ (RV.mono (B' := w4.heap.size) r2.rv (by omega)) (runs_small D) (runs_wf D)).mono ?_))
      rintro _ w5 ⟨v5, rfl, r5, b5⟩
      rw [HL.out] at r5 ⊢
      have s5 := b5.size
      replace rv := RV.mono (B' := w5.heap.size) (rv.below b5 (by omega)) (by omega)
      (go_wp2_with fail; (with_reducible refine (sameBools_any _ _ D D _ _ true (RV.mono (B' := w5.heap.size) r5.rv (by omega)) rv (Nat.le_refl _) (by omega) (eqB_self _)).mono ?_))
      rintro _ w6 ⟨rfl, b6⟩
      go_wp2_with fail
      go_ret
      exact ⟨rfl, bstep (bstep (bstep (bstep (bstep bb b2) b3) b4) b5) b6⟩
set_option maxHeartbeats 4000000 in
set_option maxRecDepth 100000 in
theorem walk_FnCount (v0 : Value) (L0 : List Int) (v1 : Value) (L1 : List Int) (w : World) (r0 : RV w w.heap.size v0 (L0.map (Value.int .u8))) (b0 : ∀ n ∈ L0, (Lit.int .u8 n).wf = true) (r1 : RV w w.heap.size v1 (L1.map (Value.int .u8))) (_b1 : ∀ n ∈ L1, (Lit.int .u8 n).wf = true) :
    Calls Try.prog 4 #[v0, v1] w fun e w' => e = .returned (.bool true) ∧ Below w.heap.size w w' := by
  have rr0 := r0
  obtain ⟨A0, cap0, rfl, hl0, hm0, hc0⟩ := r0
  obtain ⟨A1, cap1, rfl, hl1, hm1, hc1⟩ := r1
  rw [List.length_map] at rr0 hl0 hl1 ⊢
  rw [List.length_map]
  clear hc0 hc1
  unfold maxLen at hm0 hm1
  obtain ⟨M, hM⟩ : ∃ M, M = L1.length := ⟨_, rfl⟩
  rw [← hM] at hl1 ⊢
  clear hM
  rcases small_cases L0.length M with hb | hb | ⟨hb0, hb1⟩
  · go_enter Try.func4, Try.ntmps4
    go_wp2_with fail
    go_ret
    exact ⟨rfl, Below.refl _ _⟩
  · go_enter Try.func4, Try.ntmps4
    go_wp2_with fail
    go_ret
    exact ⟨rfl, Below.refl _ _⟩
  · go_enter Try.func4, Try.ntmps4
    (go_wp2_with fail; (with_reducible refine (DrawBitsCount_any _ L0 _ rr0 b0).mono ?_))
    rintro _ w1 ⟨v, D, rfl, hD, rD, bb⟩
    have s1 := bb.size
    obtain ⟨AD, cD, rfl, hDl, hDm, hDc⟩ := row_slice rD
    have rv := RV.mono (B' := w1.heap.size) rD.rv (by omega)
    rcases (show 16 < D.length ∨ D.length = 0 ∨ (0 < D.length ∧ D.length ≤ 16) by omega) with h16 | h0 | ⟨h0, h16⟩
    · have hb := bcount_no h16
      (go_wp2_with fail; (with_reducible refine (iBitsCount_any _ D _ _ rv (by omega)).mono ?_); rintro _ _ ⟨rfl, rfl⟩)
      (go_wp2_with fail; (with_reducible refine (sBitsCount_any _ D _ _ rv (by omega)).mono ?_); rintro _ _ ⟨rfl, rfl⟩)
      go_wp2_with fail
      go_ret
      exact ⟨rfl, bb⟩
    · have hb := bcount_ok (L := D) (by omega)
      have hz : ((D.length : Int) == 0) = true := beq_iff_eq.2 (by omega)
      clear h0
      (go_wp2_with fail; (with_reducible refine (iBitsCount_any _ D _ _ rv (by omega)).mono ?_); rintro _ _ ⟨rfl, rfl⟩)
      (go_wp2_with fail; (with_reducible refine (sBitsCount_any _ D _ _ rv (by omega)).mono ?_); rintro _ _ ⟨rfl, rfl⟩)
      go_wp2_with fail
      go_ret
      exact ⟨rfl, bb⟩
    · have hb := bcount_ok h16
      have hz : ((D.length : Int) == 0) = false := beq_eq_false_iff_ne.2 (by omega)
      have cl := cnt_le D
      obtain ⟨k, hk⟩ : ∃ k, M % D.length = k := ⟨_, rfl⟩
      have hkn : k < D.length := by rw [← hk]; exact Nat.mod_lt _ (by omega)
      have hk1 : (M : Int) % ((D.length : Nat) : Int) = (k : Int) := by rw [← hk]; rfl
      have hk2 : (M : Int).tmod ((D.length : Nat) : Int) = (k : Int) := by rw [Int.tmod_eq_emod_of_nonneg (Int.natCast_nonneg _)]; exact hk1
      clear hk
      obtain ⟨b, off, rfl, hbl, hcell⟩ := hDc h0
      obtain ⟨x, hx⟩ : ∃ x, D[k]? = some x := ⟨D[k], List.getElem?_eq_getElem hkn⟩
      have hcx := hcell k x hx
      have HC := hid' (cnt_set hx)
      have HX := hid' hx
      obtain ⟨j0, ji, jz0, jz1, jz2⟩ := info_parts infoBool
      have rv' : RV (w1.alloc (.cells #[] 4)) w1.heap.size (.slice (some ⟨b, off, none⟩) D.length cD) (D.map Value.bool) := rv.below (bnew w1 _) (Nat.le_refl _)
      have hDl' : (D.map Value.bool).length = D.length := List.length_map _
      clear hcell hDc hx
      (go_wp2_with fail; (with_reducible refine (iBitsCount_any _ D _ _ rv (by omega)).mono ?_); rintro _ _ ⟨rfl, rfl⟩)
      (go_wp2_with fail; (with_reducible refine (sBitsCount_any _ D _ _ rv (by omega)).mono ?_); rintro _ _ ⟨rfl, rfl⟩)
      go_wp2_with (at_builtin; refine wpList_append_rv _ rfl _ _ 22 rfl w1.heap.size 4 j0 (.bool false) 1 Try.underlying22 ji jz0 jz1 jz2 rfl _ _ rfl (own_empty (Nat.le_refl w1.heap.size)) _ rfl _ _ rv' (one_bools _) (by rw [List.length_map]; simp; omega) (by decide) (by simp) ?_; intro v2 w2 o2 b2; obtain ⟨g, cg, rfl, hcg, l1, l2, lb, l3⟩ := own_at (con := Value.bool) (D := D) o2 HX.out; obtain ⟨l4, l5⟩ := l3 true; have L4 := hid' l4; have L5 := hid' l5; clear l3 l4 l5 o2)
      have bb2 := (((Below.refl w1.heap.size w1).alloc (Nat.le_refl _) (.cells #[] 4)).trans b2).trans L5.out
      have rvx := L4.out.rv
      have hcx3 := (bb2.cell (p := ⟨b, off + k, none⟩) hbl).trans hcx
      (go_wp2_with fail; (with_reducible refine (iBitsCount_any _ (D.set k true) _ _ rvx (by rw [List.length_set]; omega)).mono ?_); rintro _ _ ⟨rfl, rfl⟩)
      have hb2 := bcount_ok (L := D.set k true) (by rw [List.length_set]; omega)
      rw [HC.out] at hb2
      rw [hb2]
      cases x
      · go_wp2_with fail
        go_ret
        exact ⟨retB (by simp), bstep bb bb2⟩
      · go_wp2_with fail
        go_ret
        exact ⟨retB (by simp), bstep bb bb2⟩
end Go.Proofs.Ytjmgkcmmhkpmhaa
