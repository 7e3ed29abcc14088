/- Plain laws on signatures. No program in sight. -/
import Derived.Test.YtghahjcdgijmiaaPlainA
namespace Go.Proofs.Ytghahjcdgijmiaa
set_option linter.unusedVariables false
theorem cop997 (n : Nat) (h0 : 1 ≤ n) (h1 : n ≤ 996) : Nat.Coprime 997 n := by
  have : ∀ n : Fin 997, n.1 ≠ 0 → Nat.gcd 997 n.1 = 1 := by decide +kernel
  exact this ⟨n, by omega⟩ (by show n ≠ 0; omega)
/-- a key can be taken out of a product modulo 997 -/
theorem mul_inj {a b c : Int} (ha : 1 ≤ a) (ha' : a ≤ 996) (hb : 0 ≤ b) (hb' : b ≤ 996) (hc : 0 ≤ c) (hc' : c ≤ 996) (h : a * b % 997 = a * c % 997) : b = c := by
  have h1 : (a * b - a * c) % 997 = 0 := Int.emod_eq_emod_iff_emod_sub_eq_zero.1 h
  rw [← Int.mul_sub] at h1
  have h2 : (997 : Int) ∣ a * (b - c) := Int.dvd_of_emod_eq_zero h1
  have h3 : 997 ∣ a.natAbs * (b - c).natAbs := by rw [← Int.natAbs_mul]; exact Int.natAbs_dvd_natAbs.2 h2
  have h4 : 997 ∣ (b - c).natAbs := Nat.Coprime.dvd_of_dvd_mul_left (cop997 a.natAbs (by omega) (by omega)) h3
  have h5 : (b - c).natAbs < 997 := by omega
  have h6 := Nat.eq_zero_of_dvd_of_lt h4 h5
  omega
theorem sig_key {a b : Int} (ha : 1 ≤ a) (ha' : a ≤ 996) (hb : 1 ≤ b) (hb' : b ≤ 996) : keyB (a * b % 997) = true := by
  rw [keyB_true]
  have h0 : 0 ≤ a * b % 997 := Int.emod_nonneg _ (by decide)
  have h1 : a * b % 997 < 997 := Int.emod_lt_of_pos _ (by decide)
  refine ⟨?_, by omega⟩
  rcases Int.lt_or_le 0 (a * b % 997) with h | h
  · omega
  · have h2 : a * b % 997 = a * 0 % 997 := by rw [Int.mul_zero]; omega
    have := mul_inj ha ha' (by omega) hb' (by omega) (by omega) h2
    omega
theorem msg_bd (l d : Int) : 1 ≤ msg l d ∧ msg l d ≤ 991 := by unfold msg; have := pr_nonneg l d; have := pr_le l d; omega
theorem hpub_bd {s : Int} (h : keyB s = true) : 1 ≤ hpub s ∧ hpub s ≤ 996 := by
  obtain ⟨a, b⟩ := keyB_true.1 h
  rw [hpub_key h]; omega
theorem sig_turn (s m : Int) : s * m % 997 * 5 % 997 = s * 5 % 997 * m % 997 := by
  have H : ∀ x y : Int, x % 997 * y % 997 = x * y % 997 := fun x y => by rw [Int.mul_emod, Int.emod_emod, ← Int.mul_emod]
  rw [H, H, Int.mul_right_comm]
/-- what is signed is accepted -/
theorem signed_ok {s l d : Int} (hs : keyB s = true) (hl : inB l 0 16 = true) (hd : digB d = true) : hcB (hpub s) l d (s * msg l d % 997) = true := by
  obtain ⟨a, b⟩ := keyB_true.1 hs
  obtain ⟨m0, m1⟩ := msg_bd l d
  have hp : keyB (hpub s) = true := keyB_true.2 (hpub_bd hs)
  unfold hcB
  rw [hp, hl, hd, sig_key a b m0 (by omega), sig_turn, hpub_key hs]; simp
theorem hcB_parts {p l d s : Int} (h : hcB p l d s = true) : keyB p = true ∧ inB l 0 16 = true ∧ digB d = true ∧ keyB s = true ∧ s * 5 % 997 = p * msg l d % 997 := by
  unfold hcB at h
  simp only [Bool.and_eq_true, beq_iff_eq] at h
  exact h
theorem no_other_key {p q l d s : Int} (h : hcB p l d s = true) (hq : q ≠ p) : hcB q l d s = false := by
  obtain ⟨h1, h2, h3, h4, h5⟩ := hcB_parts h
  cases h' : hcB q l d s
  · rfl
  · obtain ⟨g1, _, _, _, g5⟩ := hcB_parts h'
    obtain ⟨m0, m1⟩ := msg_bd l d
    obtain ⟨a, b⟩ := keyB_true.1 h1
    obtain ⟨a', b'⟩ := keyB_true.1 g1
    have : q = p := mul_inj m0 (by omega) (by omega) b' (by omega) b (by rw [Int.mul_comm (msg l d) q, Int.mul_comm (msg l d) p, ← h5, ← g5])
    exact absurd this hq
theorem no_other_msg {p l d s l' d' : Int} (h : hcB p l d s = true) (hm : msg l' d' ≠ msg l d) : hcB p l' d' s = false := by
  obtain ⟨h1, h2, h3, h4, h5⟩ := hcB_parts h
  cases h' : hcB p l' d' s
  · rfl
  · obtain ⟨_, _, _, _, g5⟩ := hcB_parts h'
    obtain ⟨m0, m1⟩ := msg_bd l d
    obtain ⟨n0, n1⟩ := msg_bd l' d'
    obtain ⟨a, b⟩ := keyB_true.1 h1
    exact absurd (mul_inj a b (by omega) (by omega) (by omega) (by omega) (g5.symm.trans h5)) hm
theorem no_other_sig {p l d s s' : Int} (h : hcB p l d s = true) (hs : s' ≠ s) : hcB p l d s' = false := by
  obtain ⟨h1, h2, h3, h4, h5⟩ := hcB_parts h
  cases h' : hcB p l d s'
  · rfl
  · obtain ⟨_, _, _, g4, g5⟩ := hcB_parts h'
    obtain ⟨a, b⟩ := keyB_true.1 h4
    obtain ⟨a', b'⟩ := keyB_true.1 g4
    have e : s' * 5 % 997 = s * 5 % 997 := g5.trans h5.symm
    omega
theorem no_other_length {p l d s l' : Int} (h : hcB p l d s = true) (h0 : 0 ≤ l') (h1 : l' ≤ 16) (hl : l' ≠ l) : hcB p l' d s = false := by
  obtain ⟨_, h2, _, _, _⟩ := hcB_parts h
  obtain ⟨a, b⟩ := inB_true.1 h2
  refine no_other_msg h fun e => hl ?_
  unfold msg at e
  exact pr_left ⟨h0, by omega⟩ ⟨a, by omega⟩ (by omega : pr l' d = pr l d)
theorem no_other_digest {p l d s d' : Int} (h : hcB p l d s = true) (h0 : 0 ≤ d') (h1 : d' ≤ 990) (hl : d' ≠ d) : hcB p l d' s = false := by
  obtain ⟨_, _, h3, _, _⟩ := hcB_parts h
  obtain ⟨a, b⟩ := digB_true.1 h3
  refine no_other_msg h fun e => hl ?_
  unfold msg at e
  exact pr_right ⟨h0, h1⟩ ⟨a, b⟩ (by omega : pr l d' = pr l d)
/-- another digest has another signature -/
theorem other_sig {s l d d' : Int} (hs : keyB s = true) (hd : digB d = true) (hd' : digB d' = true) (h : d' ≠ d) : s * msg l d' % 997 ≠ s * msg l d % 997 := by
  obtain ⟨a, b⟩ := keyB_true.1 hs
  obtain ⟨m0, m1⟩ := msg_bd l d
  obtain ⟨n0, n1⟩ := msg_bd l d'
  intro e
  have e2 := mul_inj a b (by omega) (by omega) (by omega) (by omega) e
  unfold msg at e2
  exact h (pr_right (digB_true.1 hd') (digB_true.1 hd) (by omega : pr l d' = pr l d))
end Go.Proofs.Ytghahjcdgijmiaa
