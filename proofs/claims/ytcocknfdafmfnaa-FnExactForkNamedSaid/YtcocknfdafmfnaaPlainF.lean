/- Plain laws on the keys that proofs of forks name. No program in sight. -/
import Derived.Test.YtcocknfdafmfnaaPure
import Derived.Lib.SlicesCompact
namespace Go.Proofs.Ytcocknfdafmfnaa
set_option linter.unusedVariables false

/-- a proof of a fork: the key, and length, digest and signature of two heads -/
structure FK where
  p : Int
  la : Int
  da : Int
  sa : Int
  lb : Int
  db : Int
  sb : Int
def okF (f : FK) : Bool := fkB f.p f.la f.da f.sa f.lb f.db f.sb
def keysF (F : List FK) : List Int := (F.filter okF).map fun f => f.p
def sortI (L : List Int) : List Int := L.mergeSort fun x y => decide (x ≤ y)
def named (F : List FK) : List Int := Go.Lib.compact (sortI (keysF F))
def hitF (F : List FK) (k : Nat) : Bool := F.any fun f => decide (f.p = (k : Int)) && okF f
def specN (F : List FK) (m : Nat) : List Int := ((List.range m).filter fun k => decide (0 < k) && hitF F k).map fun k : Nat => (k : Int)

theorem keysF_snoc {F : List FK} {k : Nat} {f : FK} (h : F[k]? = some f) : keysF (F.take (k + 1)) = if okF f = true then keysF (F.take k) ++ [f.p] else keysF (F.take k) := by
  have hlt : k < F.length := by
    rcases Nat.lt_or_ge k F.length with h1 | h1
    · exact h1
    · rw [List.getElem?_eq_none h1] at h; cases h
  rw [List.getElem?_eq_getElem hlt] at h
  simp only [Option.some.injEq] at h
  unfold keysF
  rw [List.take_succ_eq_append_getElem hlt, h, List.filter_append, List.map_append]
  cases ho : okF f
  · simp [List.filter, ho]
  · simp [List.filter, ho]
theorem hitF_snoc {F : List FK} {i : Nat} {f : FK} (h : F[i]? = some f) (k : Nat) : hitF (F.take (i + 1)) k = (hitF (F.take i) k || (decide (f.p = (k : Int)) && okF f)) := by
  have hlt : i < F.length := by
    rcases Nat.lt_or_ge i F.length with h1 | h1
    · exact h1
    · rw [List.getElem?_eq_none h1] at h; cases h
  rw [List.getElem?_eq_getElem hlt] at h
  simp only [Option.some.injEq] at h
  unfold hitF
  rw [List.take_succ_eq_append_getElem hlt, h, List.any_append]; simp
theorem okF_key {f : FK} (h : okF f = true) : 1 ≤ f.p ∧ f.p ≤ 996 := by
  unfold okF fkB hcB at h
  simp only [Bool.and_eq_true] at h
  exact keyB_true.1 h.1.1
theorem specN_one (F : List FK) : specN F 1 = [] := by unfold specN; rfl
theorem specN_succ (F : List FK) (m : Nat) (hm : 0 < m) : specN F (m + 1) = specN F m ++ (if hitF F m = true then [(m : Int)] else []) := by
  unfold specN
  rw [List.range_succ, List.filter_append, List.map_append]
  congr 1
  cases h : hitF F m
  · simp [List.filter, h]
  · simp [List.filter, h, hm]
theorem specN_mem {F : List FK} {m : Nat} {x : Int} : x ∈ specN F m ↔ ∃ k : Nat, k < m ∧ 0 < k ∧ hitF F k = true ∧ x = (k : Int) := by
  unfold specN
  rw [List.mem_map]
  constructor
  · rintro ⟨k, hk, rfl⟩
    rw [List.mem_filter, List.mem_range, Bool.and_eq_true, decide_eq_true_iff] at hk
    exact ⟨k, hk.1, hk.2.1, hk.2.2, rfl⟩
  · rintro ⟨k, h1, h2, h3, rfl⟩
    exact ⟨k, by rw [List.mem_filter, List.mem_range, Bool.and_eq_true, decide_eq_true_iff]; exact ⟨h1, h2, h3⟩, rfl⟩
theorem specN_len (F : List FK) (m : Nat) : (specN F m).length ≤ m := by
  unfold specN
  rw [List.length_map]
  have h := List.length_filter_le (fun k => decide (0 < k) && hitF F k) (List.range m)
  rw [List.length_range] at h
  exact h
theorem specN_sorted (F : List FK) : ∀ m, (specN F m).Pairwise (· < ·)
  | 0 => by unfold specN; exact List.Pairwise.nil
  | m + 1 => by
    rcases Nat.eq_zero_or_pos m with h | h
    · subst h; rw [specN_one]; exact List.Pairwise.nil
    · rw [specN_succ F m h]
      rw [List.pairwise_append]
      refine ⟨specN_sorted F m, ?_, ?_⟩
      · split
        · exact List.pairwise_singleton _ _
        · exact List.Pairwise.nil
      · intro a ha b hb
        obtain ⟨k, hk, _, _, rfl⟩ := specN_mem.1 ha
        split at hb
        · rw [List.mem_singleton] at hb; omega
        · cases hb
/-- two ascending lists with the same members are one -/
theorem asc_eq : ∀ {L M : List Int}, L.Pairwise (· < ·) → M.Pairwise (· < ·) → (∀ x, x ∈ L ↔ x ∈ M) → L = M
  | [], [], _, _, _ => rfl
  | [], y :: M, _, _, h => by have := (h y).2 (by simp); cases this
  | x :: L, [], _, _, h => by have := (h x).1 (by simp); cases this
  | x :: L, y :: M, h1, h2, h => by
    rw [List.pairwise_cons] at h1 h2
    have hxy : x = y := by
      rcases List.mem_cons.1 ((h x).1 (by simp)) with e | e
      · exact e
      · rcases List.mem_cons.1 ((h y).2 (by simp)) with e' | e'
        · exact e'.symm
        · have := h1.1 y e'; have := h2.1 x e; omega
    subst hxy
    congr 1
    refine asc_eq h1.2 h2.2 fun z => ⟨fun hz => ?_, fun hz => ?_⟩
    · rcases List.mem_cons.1 ((h z).1 (by simp [hz])) with e | e
      · have := h1.1 z hz; omega
      · exact e
    · rcases List.mem_cons.1 ((h z).2 (by simp [hz])) with e | e
      · have := h2.1 z hz; omega
      · exact e
theorem sortI_asc (L : List Int) : (sortI L).Pairwise (· ≤ ·) := by
  have h := List.pairwise_mergeSort (le := fun x y : Int => decide (x ≤ y)) (by intro a b c h1 h2; simp at h1 h2 ⊢; omega) (by intro a b; simp; omega) L
  unfold sortI
  exact h.imp fun h => by simpa using h
theorem sortI_mem {L : List Int} {x : Int} : x ∈ sortI L ↔ x ∈ L := by unfold sortI; exact List.mem_mergeSort
theorem sortI_len (L : List Int) : (sortI L).length = L.length := by unfold sortI; exact List.length_mergeSort L
open Go.Lib in
theorem compact_asc (L : List Int) (h : L.Pairwise (· ≤ ·)) : (compact L).Pairwise (· < ·) ∧ ∀ x, x ∈ compact L ↔ x ∈ L := by
  have get : ∀ j, j < L.length → L.toArray[j]! = L.getD j 0 := fun j hj => by
    rw [getElem!_pos L.toArray j (by simpa using hj), List.getD_eq_getElem?_getD, List.getElem?_eq_getElem hj]; simp
  have mono : ∀ i j, i < j → j < L.length → L.getD i 0 ≤ L.getD j 0 := fun i j hij hj => by
    rw [List.getD_eq_getElem?_getD, List.getD_eq_getElem?_getD, List.getElem?_eq_getElem (by omega), List.getElem?_eq_getElem hj]
    exact List.pairwise_iff_getElem.1 h i j (by omega) hj hij
  have INV : ∀ m, m ≤ L.length → (compactUpTo L.toArray m).Pairwise (· < ·) ∧ (∀ x, x ∈ compactUpTo L.toArray m ↔ ∃ j, j < m ∧ x = L.getD j 0) := by
    intro m
    induction m with
    | zero => intro _; refine ⟨by unfold compactUpTo; exact List.Pairwise.nil, fun x => ?_⟩; unfold compactUpTo; simp
    | succ m ih =>
      intro hm
      obtain ⟨i1, i2⟩ := ih (by omega)
      rw [compactUpTo_succ]
      cases hk : keeps L.toArray m
      · have hm0 : 0 < m := by
          rcases Nat.eq_zero_or_pos m with h0 | h0
          · subst h0; rw [keeps_lt_one _ 0 (by omega)] at hk; cases hk
          · exact h0
        have he : L.getD m 0 = L.getD (m - 1) 0 := by
          rcases Decidable.em (L.toArray[m]! = L.toArray[m - 1]!) with e | e
          · rw [get m (by omega), get (m - 1) (by omega)] at e; exact e
          · rw [keeps_pos e] at hk; cases hk
        simp only [Bool.false_eq_true, if_false, List.append_nil]
        refine ⟨i1, fun x => ?_⟩
        rw [i2]
        constructor
        · rintro ⟨j, hj, e⟩; exact ⟨j, by omega, e⟩
        · rintro ⟨j, hj, e⟩
          by_cases hjm : j = m
          · exact ⟨m - 1, by omega, by rw [e, hjm, he]⟩
          · exact ⟨j, by omega, e⟩
      · simp only [if_true]
        rw [get m (by omega)]
        refine ⟨?_, fun x => ?_⟩
        · rw [List.pairwise_append]
          refine ⟨i1, List.pairwise_singleton _ _, fun a ha b hb => ?_⟩
          rw [List.mem_singleton] at hb
          obtain ⟨j, hj, rfl⟩ := (i2 a).1 ha
          subst hb
          have hne : L.getD (m - 1) 0 ≠ L.getD m 0 := fun e => by
            have e2 : L.toArray[m]! = L.toArray[m - 1]! := by rw [get m (by omega), get (m - 1) (by omega)]; exact e.symm
            rw [keeps_neg (by omega) e2] at hk; cases hk
          have h1 := mono (m - 1) m (by omega) (by omega)
          rcases (show j = m - 1 ∨ j < m - 1 by omega) with e | e
          · rw [e]; omega
          · have := mono j (m - 1) e (by omega); omega
        · rw [List.mem_append, i2, List.mem_singleton]
          constructor
          · rintro (⟨j, hj, e⟩ | e)
            · exact ⟨j, by omega, e⟩
            · exact ⟨m, by omega, e⟩
          · rintro ⟨j, hj, e⟩
            by_cases hjm : j = m
            · exact .inr (by rw [e, hjm])
            · exact .inl ⟨j, by omega, e⟩
  obtain ⟨i1, i2⟩ := INV L.length (Nat.le_refl _)
  refine ⟨i1, fun x => ?_⟩
  show x ∈ compactUpTo L.toArray L.length ↔ _
  rw [i2]
  constructor
  · rintro ⟨j, hj, rfl⟩
    rw [List.getD_eq_getElem?_getD, List.getElem?_eq_getElem hj]; exact List.getElem_mem hj
  · intro hx
    obtain ⟨j, hj, e⟩ := List.getElem_of_mem hx
    exact ⟨j, hj, by rw [List.getD_eq_getElem?_getD, List.getElem?_eq_getElem hj, ← e]; rfl⟩
/-- both name the same keys -/
theorem named_spec (F : List FK) : named F = specN F 997 := by
  obtain ⟨c1, c2⟩ := compact_asc (sortI (keysF F)) (sortI_asc _)
  unfold named
  refine asc_eq c1 (specN_sorted F 997) fun x => ?_
  rw [c2, sortI_mem, specN_mem]
  unfold keysF hitF
  rw [List.mem_map]
  constructor
  · rintro ⟨f, hf, rfl⟩
    rw [List.mem_filter] at hf
    obtain ⟨k0, k1⟩ := okF_key hf.2
    refine ⟨f.p.toNat, by omega, by omega, ?_, by omega⟩
    rw [List.any_eq_true]
    exact ⟨f, hf.1, by rw [hf.2, Bool.and_true, decide_eq_true_iff]; omega⟩
  · rintro ⟨k, h1, h2, h3, rfl⟩
    rw [List.any_eq_true] at h3
    obtain ⟨f, hf, h4⟩ := h3
    rw [Bool.and_eq_true, decide_eq_true_iff] at h4
    exact ⟨f, List.mem_filter.2 ⟨hf, h4.2⟩, h4.1⟩
theorem named_one (f : FK) : named [f] = if okF f = true then [f.p] else [] := by
  unfold named keysF
  cases ho : okF f
  · simp [List.filter, ho, sortI]; rfl
  · simp [List.filter, ho, sortI]; rfl
theorem named_nil : named [] = [] := by unfold named keysF sortI; simp; rfl
theorem keysF_len (F : List FK) : (keysF F).length ≤ F.length := by unfold keysF; rw [List.length_map]; exact List.length_filter_le _ _
theorem named_len (F : List FK) : (named F).length ≤ 997 := by rw [named_spec]; exact specN_len F 997
end Go.Proofs.Ytcocknfdafmfnaa
