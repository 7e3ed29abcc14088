/- Plain laws on runs and bits. No program in sight. -/
import Derived.Test.YtjmgkcmmhkpmhaaPlainB
namespace Go.Proofs.Ytjmgkcmmhkpmhaa
set_option linter.unusedVariables false

theorem expand_app (A B : List Int) : ∀ k, k ≤ A.length → expand (A ++ B) k = expand A k
  | 0, _ => rfl
  | k + 1, h => by
    show expand (A ++ B) k ++ _ = expand A k ++ _
    rw [expand_app A B k (by omega), List.getD_eq_getElem?_getD, List.getD_eq_getElem?_getD, List.getElem?_append_left (by omega)]
theorem expand_snoc (A : List Int) (n : Int) : expand (A ++ [n]) (A.length + 1) = expand A A.length ++ List.replicate n.toNat (bitK A.length) := by
  show expand (A ++ [n]) A.length ++ _ = _
  rw [expand_app A [n] _ (Nat.le_refl _), List.getD_eq_getElem?_getD, List.getElem?_append_right (Nat.le_refl _), Nat.sub_self]; rfl
theorem bitK_0 : bitK 0 = false := rfl
theorem bool_ne {a b : Bool} (h : a ≠ b) : a = !b := by cases a <;> cases b <;> simp_all

/-- what the state says of the bits that it has read -/
structure RunInv (L : List Bool) (s : RunSt) : Prop where
  val : s.val = bitK s.out.length
  exp : expand (s.out ++ [(s.num : Int)]) (s.out.length + 1) = L
  nonneg : ∀ j, j < s.out.length → 0 ≤ s.out.getD j 0
  pos : ∀ j, 1 ≤ j → j < s.out.length → 1 ≤ s.out.getD j 0
  last : 0 < s.out.length → 1 ≤ s.num
  any : L ≠ [] → 1 ≤ s.num
theorem getD_snoc_lt {A : List Int} {n : Int} {j : Nat} (h : j < A.length) : (A ++ [n]).getD j 0 = A.getD j 0 := by
  rw [List.getD_eq_getElem?_getD, List.getD_eq_getElem?_getD, List.getElem?_append_left h]
theorem getD_snoc_eq (A : List Int) (n : Int) : (A ++ [n]).getD A.length 0 = n := by
  rw [List.getD_eq_getElem?_getD, List.getElem?_append_right (Nat.le_refl _), Nat.sub_self]; rfl
theorem inv_step {L : List Bool} {s : RunSt} (h : RunInv L s) (b : Bool) : RunInv (L ++ [b]) (rstep s b) := by
  obtain ⟨o, v, n⟩ := s
  obtain ⟨h1, h2, h3, h4, h5, h6⟩ := h
  simp only at h1 h2 h3 h4 h5 h6
  unfold rstep
  by_cases hb : b = v
  · rw [if_pos hb]
    refine ⟨h1, ?_, h3, h4, fun _ => by simp, fun _ => by simp⟩
    simp only
    rw [expand_snoc] at h2 ⊢
    have e : (((n + 1 : Nat) : Int)).toNat = n + 1 := by omega
    have e' : ((n : Int)).toNat = n := by omega
    rw [e, List.replicate_succ', ← List.append_assoc]
    rw [e'] at h2
    rw [h2, hb, h1]
  · rw [if_neg hb]
    have hl : (o ++ [(n : Int)]).length = o.length + 1 := by simp
    refine ⟨?_, ?_, ?_, ?_, fun _ => by simp, fun _ => by simp⟩
    · simp only [hl]; rw [bitK_succ, ← h1]; exact bool_ne hb
    · simp only
      rw [expand_snoc, hl, h2, bitK_succ, ← h1, bool_ne hb]; rfl
    · intro j hj
      simp only [hl] at hj
      rcases Nat.lt_or_ge j o.length with h | h
      · simp only; rw [getD_snoc_lt h]; exact h3 j h
      · simp only; rw [show j = o.length by omega, getD_snoc_eq]; omega
    · intro j hj1 hj
      simp only [hl] at hj
      rcases Nat.lt_or_ge j o.length with h | h
      · simp only; rw [getD_snoc_lt h]; exact h4 j hj1 h
      · simp only; rw [show j = o.length by omega, getD_snoc_eq]
        have := h5 (by omega)
        omega
theorem inv_take (L : List Bool) : ∀ k, k ≤ L.length → RunInv (L.take k) (rstate (L.take k))
  | 0, _ => ⟨rfl, rfl, fun j hj => absurd hj (Nat.not_lt_zero _), fun j _ hj => absurd hj (Nat.not_lt_zero _), fun h => absurd h (Nat.lt_irrefl _), fun h => absurd rfl h⟩
  | k + 1, h => by
    have hk : L[k]? = some L[k] := List.getElem?_eq_getElem (by omega)
    rw [rstate_take hk, take_at hk]
    exact inv_step (inv_take L k (by omega)) _
theorem inv_all (L : List Bool) : RunInv L (rstate L) := by
  have := inv_take L L.length (Nat.le_refl _)
  rwa [List.take_length] at this

/-- the runs of a list that is not empty -/
theorem runs_eq {L : List Bool} (h : L ≠ []) (h16 : L.length ≤ 16) : runs L = (rstate L).out ++ [((rstate L).num : Int)] := by
  have := (inv_all L).any h
  unfold runs runL
  rw [if_pos h16, if_pos (by omega)]
theorem runs_nil : runs [] = [] := rfl
theorem runs_expand {L : List Bool} (h16 : L.length ≤ 16) : expand (runs L) (runs L).length = L := by
  by_cases h : L = []
  · subst h; rfl
  · rw [runs_eq h h16, List.length_append, List.length_singleton]; exact (inv_all L).exp
theorem runs_ok {L : List Bool} (h16 : L.length ≤ 16) : runsOk (runs L) (runs L).length := by
  by_cases h : L = []
  · subst h; intro j hj; exact absurd hj (Nat.not_lt_zero _)
  · have I := inv_all L
    have hn := I.any h
    rw [runs_eq h h16]
    intro j hj
    have hl : ((rstate L).out ++ [((rstate L).num : Int)]).length = (rstate L).out.length + 1 := by simp
    rw [hl] at hj ⊢
    have l01 := lst_01 ((rstate L).out.length + 1) j
    rcases Nat.lt_or_ge j (rstate L).out.length with h' | h'
    · rw [getD_snoc_lt h']
      by_cases hj0 : j = 0
      · subst hj0
        rw [show lst ((rstate L).out.length + 1) 0 = 0 from if_pos ⟨rfl, by omega⟩]
        exact I.nonneg 0 h'
      · have := I.pos j (by omega) h'
        omega
    · rw [show j = (rstate L).out.length by omega, getD_snoc_eq]
      have := lst_01 ((rstate L).out.length + 1) (rstate L).out.length
      omega
/-- runs describe the bits -/
theorem runs_law {L : List Bool} (h16 : L.length ≤ 16) : bitsOf (runs L) = some L := by
  rw [bitsOf_some (runs_ok h16) (by rw [runs_expand h16]; exact h16), runs_expand h16]

theorem rstate_app (L : List Bool) : ∀ (n : Nat) (b : Bool), (rstate L).val = b → rstate (L ++ List.replicate n b) = ⟨(rstate L).out, b, (rstate L).num + n⟩
  | 0, b, h => by rw [List.replicate_zero, List.append_nil, Nat.add_zero, ← h]
  | n + 1, b, h => by
    rw [List.replicate_succ', ← List.append_assoc, rstate_snoc, rstate_app L n b h]
    exact if_pos rfl
theorem rstate_flip (L : List Bool) (n : Nat) (b : Bool) (hn : 1 ≤ n) (h : (rstate L).val = !b) : rstate (L ++ List.replicate n b) = ⟨(rstate L).out ++ [((rstate L).num : Int)], b, n⟩ := by
  obtain ⟨m, rfl⟩ : ∃ m, n = m + 1 := ⟨n - 1, by omega⟩
  rw [List.replicate_succ, List.append_cons]
  have hne : ¬ b = (rstate L).val := by rw [h]; cases b <;> simp
  have h1 : rstate (L ++ [b]) = ⟨(rstate L).out ++ [((rstate L).num : Int)], b, 1⟩ := by rw [rstate_snoc]; exact if_neg hne
  rw [rstate_app (L ++ [b]) m b (by rw [h1]), h1]
  simp only [RunSt.mk.injEq, true_and]
  omega
theorem rstate_expand (R : List Int) (hok : runsOk R R.length) : ∀ k, k + 1 ≤ R.length → rstate (expand R (k + 1)) = ⟨R.take k, bitK k, (R.getD k 0).toNat⟩
  | 0, h => by
    show rstate ([] ++ List.replicate (R.getD 0 0).toNat (bitK 0)) = _
    rw [rstate_app [] _ (bitK 0) rfl]
    simp [rstate, bitK_0]
  | k + 1, h => by
    have ih := rstate_expand R hok k (by omega)
    have hl := hok (k + 1) (by omega)
    rw [show lst R.length (k + 1) = 1 from if_neg (by omega)] at hl
    show rstate (expand R (k + 1) ++ List.replicate (R.getD (k + 1) 0).toNat (bitK (k + 1))) = _
    rw [rstate_flip _ _ _ (by omega) (by rw [ih, bitK_succ]; simp), ih]
    have hk : R[k]? = some (R.getD k 0) := by rw [List.getD_eq_getElem?_getD, List.getElem?_eq_getElem (by omega)]; rfl
    have h0 : 0 ≤ R.getD k 0 := by have := hok k (by omega); have := lst_01 R.length k; omega
    rw [take_at hk]
    simp only [RunSt.mk.injEq, and_self, and_true]
    congr 2
    omega
/-- bits have one list of runs -/
theorem back_law {R : List Int} {L : List Bool} (h : bitsOf R = some L) : runs L = R := by
  unfold bitsOf at h
  split at h
  · rename_i hh
    obtain ⟨hok, h16⟩ := hh
    simp only [Option.some.injEq] at h
    subst h
    rcases Nat.eq_zero_or_pos R.length with h0 | h0
    · have : R = [] := List.eq_nil_of_length_eq_zero h0
      subst this; rfl
    · obtain ⟨k, hk⟩ : ∃ k, R.length = k + 1 := ⟨R.length - 1, by omega⟩
      have hs := rstate_expand R hok k (by omega)
      have hl := hok k (by omega)
      have h1 : 1 ≤ R.getD k 0 := by
        by_cases hk0 : k = 0
        · rw [show lst R.length k = 1 from if_neg (by omega)] at hl; exact hl
        · rw [show lst R.length k = 1 from if_neg (by omega)] at hl; exact hl
      rw [hk] at h16 ⊢
      unfold runs runL
      rw [if_pos h16, hs]
      simp only
      rw [if_pos (by omega)]
      have hg : R[k]? = some (R.getD k 0) := by rw [List.getD_eq_getElem?_getD, List.getElem?_eq_getElem (by omega)]; rfl
      rw [show (((R.getD k 0).toNat : Nat) : Int) = R.getD k 0 by omega, ← take_at hg, ← hk, List.take_length]
  · cases h

/-- the sum of the first k runs; of those at odd places -/
def sumK (R : List Int) : Nat → Int
  | 0 => 0
  | k + 1 => sumK R k + R.getD k 0
def oddK (R : List Int) : Nat → Int
  | 0 => 0
  | k + 1 => if bitK k = true then oddK R k + R.getD k 0 else oddK R k
theorem sum_expand (R : List Int) : ∀ k, (∀ j, j < k → 0 ≤ R.getD j 0) → sumK R k = (expand R k).length ∧ oddK R k = (cnt (expand R k) : Nat)
  | 0, _ => ⟨rfl, rfl⟩
  | k + 1, h => by
    obtain ⟨i1, i2⟩ := sum_expand R k fun j hj => h j (by omega)
    have h0 := h k (by omega)
    constructor
    · show sumK R k + _ = _
      rw [i1, expand_succ_len]; omega
    · show (if bitK k = true then oddK R k + R.getD k 0 else oddK R k) = _
      have e : cnt (expand R (k + 1)) = cnt (expand R k) + cnt (List.replicate (R.getD k 0).toNat (bitK k)) := by
        show cnt (_ ++ _) = _
        unfold cnt; rw [List.count_append]
      rw [e, i2]
      cases hb : bitK k
      · have : cnt (List.replicate (R.getD k 0).toNat false) = 0 := by unfold cnt; rw [List.count_replicate]; simp
        rw [this]; simp
      · have : cnt (List.replicate (R.getD k 0).toNat true) = (R.getD k 0).toNat := by unfold cnt; rw [List.count_replicate]; simp
        rw [this, if_pos rfl]; omega
theorem runs_nonneg {L : List Bool} (h16 : L.length ≤ 16) : ∀ j, j < (runs L).length → 0 ≤ (runs L).getD j 0 := fun j hj => by
  have := runs_ok h16 j hj; have := lst_01 (runs L).length j; omega
theorem runs_sum {L : List Bool} (h16 : L.length ≤ 16) : sumK (runs L) (runs L).length = L.length ∧ oddK (runs L) (runs L).length = (cnt L : Nat) := by
  have := sum_expand (runs L) (runs L).length (runs_nonneg h16)
  rwa [runs_expand h16] at this
theorem runs_pos {L : List Bool} (h16 : L.length ≤ 16) {j : Nat} (h1 : 1 ≤ j) (hj : j < (runs L).length) : 1 ≤ (runs L).getD j 0 := by
  have := runs_ok h16 j hj
  rwa [show lst (runs L).length j = 1 from if_neg (by omega)] at this
theorem expand_pre (R : List Int) {j k i : Nat} {x : Bool} (h : j ≤ k) (hx : (expand R j)[i]? = some x) : (expand R k)[i]? = some x := by
  induction k with
  | zero => rw [show j = 0 by omega] at hx; exact hx
  | succ k ih =>
    rcases Nat.lt_or_ge j (k + 1) with h1 | h1
    · have := ih (by omega)
      show (expand R k ++ _)[i]? = _
      have hlt : i < (expand R k).length := by
        rcases Nat.lt_or_ge i (expand R k).length with h2 | h2
        · exact h2
        · rw [List.getElem?_eq_none h2] at this; cases this
      rw [List.getElem?_append_left hlt, this]
    · rw [show j = k + 1 by omega] at hx; exact hx
theorem runs_first {L : List Bool} (h16 : L.length ≤ 16) {b : Bool} (hb : L[0]? = some b) : (((runs L).getD 0 0 == 0) == b) = true := by
  have hne : L ≠ [] := by rintro rfl; cases hb
  have hlen : 0 < (runs L).length := by rw [runs_eq hne h16]; simp
  have he := runs_expand h16
  have h0 := runs_nonneg h16 0 hlen
  by_cases hz : (runs L).getD 0 0 = 0
  · have hl1 : 1 < (runs L).length := by
      rcases Nat.lt_or_ge 1 (runs L).length with h | h
      · exact h
      · have hok := runs_ok h16 0 hlen
        rw [show lst (runs L).length 0 = 1 from if_neg (by omega)] at hok
        omega
    have h1 := runs_pos h16 (Nat.le_refl 1) hl1
    have h2 : (expand (runs L) 2)[0]? = some true := by
      show (expand (runs L) 1 ++ List.replicate ((runs L).getD 1 0).toNat (bitK 1))[0]? = _
      have : expand (runs L) 1 = [] := by
        show [] ++ List.replicate ((runs L).getD 0 0).toNat (bitK 0) = []
        rw [hz]; rfl
      rw [this, List.nil_append, List.getElem?_replicate, if_pos (by omega)]; rfl
    have h3 := expand_pre (runs L) (j := 2) (k := (runs L).length) (by omega) h2
    rw [he, hb] at h3
    simp only [Option.some.injEq] at h3
    subst h3
    rw [hz]; rfl
  · have h2 : (expand (runs L) 1)[0]? = some false := by
      show ([] ++ List.replicate ((runs L).getD 0 0).toNat (bitK 0))[0]? = _
      rw [List.nil_append, List.getElem?_replicate, if_pos (by omega)]; rfl
    have h3 := expand_pre (runs L) (j := 1) (k := (runs L).length) (by omega) h2
    rw [he, hb] at h3
    simp only [Option.some.injEq] at h3
    subst h3
    rw [beq_eq_false_iff_ne.2 hz]; rfl
end Go.Proofs.Ytjmgkcmmhkpmhaa
