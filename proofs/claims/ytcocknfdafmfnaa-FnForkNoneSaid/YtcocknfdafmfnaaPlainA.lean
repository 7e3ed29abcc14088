/- Plain laws on numbers: pairs, keys, bytes. No program in sight. -/
import Derived.Test.YtcocknfdafmfnaaPure
namespace Go.Proofs.Ytcocknfdafmfnaa
set_option linter.unusedVariables false
theorem hpub_key {d : Int} (h : keyB d = true) : hpub d = d * 5 % 997 := if_pos h
theorem hpub_no {d : Int} (h : keyB d = false) : hpub d = 0 := if_neg (by rw [h]; simp)
theorem hpub_ne {d : Int} (h : keyB d = true) : (hpub d == 0) = false := by
  obtain ⟨a, b⟩ := keyB_true.1 h
  rw [hpub_key h, beq_eq_false_iff_ne]; omega
theorem pub_law (d s : Int) (hd : keyB d = true) (hs : keyB s = true) : ((s == d) == (hpub s == hpub d)) = true := by
  obtain ⟨a, b⟩ := keyB_true.1 hd
  obtain ⟨a', b'⟩ := keyB_true.1 hs
  rw [hpub_key hd, hpub_key hs]
  by_cases h : s = d
  · subst h; simp
  · have h1 : (s == d) = false := by simpa using h
    have h2 : (s * 5 % 997 == d * 5 % 997) = false := by rw [beq_eq_false_iff_ne]; omega
    rw [h1, h2]; rfl
theorem dpair_dig {a b : Int} (h : dpair a b ≠ -1) : (0 ≤ a ∧ a ≤ 990) ∧ (0 ≤ b ∧ b ≤ 990) ∧ dpair a b = pr a b := by
  unfold dpair at h ⊢
  by_cases h' : digB a = true ∧ digB b = true
  · rw [if_pos h']; exact ⟨digB_true.1 h'.1, digB_true.1 h'.2, rfl⟩
  · rw [if_neg h'] at h; exact absurd rfl h
theorem pr_left {a a' b : Int} (h : 0 ≤ a ∧ a ≤ 990) (h' : 0 ≤ a' ∧ a' ≤ 990) (e : pr a b = pr a' b) : a = a' := by unfold pr at e; omega
theorem pr_right {a b b' : Int} (h : 0 ≤ b ∧ b ≤ 990) (h' : 0 ≤ b' ∧ b' ≤ 990) (e : pr a b = pr a b') : b = b' := by unfold pr at e; omega
theorem order_law (a b : Int) (ha : 0 ≤ a ∧ a ≤ 990) (hb : 0 ≤ b ∧ b ≤ 990) : ((pr b a == pr a b) == (a == b)) = true := by
  by_cases h : a = b
  · subst h; simp
  · have h1 : (a == b) = false := by simpa using h
    have h2 : (pr b a == pr a b) = false := by rw [beq_eq_false_iff_ne]; unfold pr; omega
    rw [h1, h2]; rfl
theorem other_dig (d k : Int) (h0 : 0 ≤ d) : 0 ≤ other d k ∧ other d k ≤ 990 := by unfold other; omega
theorem other_ne (d k : Int) (h0 : 0 ≤ d ∧ d ≤ 990) (hk : 0 ≤ k) : other d k ≠ d := by unfold other; omega
theorem step_inj {n n' c : Int} (h : 0 ≤ n ∧ n ≤ 990) (h' : 0 ≤ n' ∧ n' ≤ 990) (e : step n c = step n' c) : n = n' := by unfold step at e; omega
theorem step_byte {n c c' : Int} (h : 0 ≤ c ∧ c ≤ 255) (h' : 0 ≤ c' ∧ c' ≤ 255) (e : step n c = step n c') : c = c' := by unfold step at e; omega

theorem foldl_step_inj : ∀ (l : List UInt8) (n n' : Int), (0 ≤ n ∧ n ≤ 990) → (0 ≤ n' ∧ n' ≤ 990) → l.foldl (fun n c => step n (c.toNat : Int)) n = l.foldl (fun n c => step n (c.toNat : Int)) n' → n = n'
  | [], n, n', _, _, e => e
  | c :: l, n, n', h, h', e => step_inj h h' (foldl_step_inj l _ _ ⟨step_nonneg _ _, step_le _ _⟩ ⟨step_nonneg _ _, step_le _ _⟩ e)
theorem txt_app (a b : List UInt8) : txt (a ++ b) = b.foldl (fun n c => step n (c.toNat : Int)) (txt a) := by unfold txt; rw [List.foldl_append]
/-- a changed byte changes the digest -/
theorem txt_change (a b : List UInt8) (c c' : UInt8) (h : c' ≠ c) : txt (a ++ c' :: b) ≠ txt (a ++ c :: b) := by
  intro e
  rw [txt_app, txt_app] at e
  have e2 := foldl_step_inj b (step (txt a) (c'.toNat : Int)) (step (txt a) (c.toNat : Int)) ⟨step_nonneg _ _, step_le _ _⟩ ⟨step_nonneg _ _, step_le _ _⟩ e
  have e3 := step_byte ⟨by omega, by have := c'.toNat_lt; omega⟩ ⟨by omega, by have := c.toNat_lt; omega⟩ e2
  exact h (UInt8.toNat_inj.1 (by omega))
theorem byte_of (c : Int) (h0 : 0 ≤ c) (h1 : c ≤ 255) : ((UInt8.ofNat c.toNat).toNat : Int) = c := by
  have : (UInt8.ofNat c.toNat).toNat = c.toNat := by rw [UInt8.toNat_ofNat']; omega
  rw [this]; omega

end Go.Proofs.Ytcocknfdafmfnaa
