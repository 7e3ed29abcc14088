/- The walks of the division of leaves into complete trees. -/
import Derived.Test.YtcocknfdafmfnaaRoot
namespace Go.Proofs.Ytcocknfdafmfnaa
set_option linter.unusedVariables false
open Go.RowKit

/-- The size that has been tried so far, and what is left to try. -/
def SzRel (a n : Nat) (v : Value) : Prop :=
  (v = .int .i64 1 ∧ htF 4 a n 0 = ht a n) ∨ (v = .int .i64 2 ∧ htF 3 a n 1 = ht a n) ∨ (v = .int .i64 4 ∧ htF 2 a n 2 = ht a n) ∨ (v = .int .i64 8 ∧ htF 1 a n 3 = ht a n) ∨ (v = .int .i64 16 ∧ htF 0 a n 4 = ht a n)
/-- The size of the tree at a. -/
def szI (a n : Nat) : Int := ((2 ^ ht a n : Nat) : Int)
theorem szI_of {a n j : Nat} {z : Int} (h : ht a n = j) (hz : z = ((2 ^ j : Nat) : Int)) : szI a n = z := by unfold szI; rw [h, hz]
theorem htF_yes {f a n j : Nat} (h1 : a % 2 ^ (j + 1) = 0) (h2 : a + 2 ^ (j + 1) ≤ n) : htF (f + 1) a n j = htF f a n (j + 1) := if_pos ⟨h1, h2⟩
theorem htF_no {f a n j : Nat} (h : a % 2 ^ (j + 1) ≠ 0 ∨ n < a + 2 ^ (j + 1)) : htF (f + 1) a n j = j := if_neg (by omega)

set_option maxHeartbeats 4000000 in
theorem l2Size_any (a n : Nat) (w : World) (ha : a ≤ 16) (hn : n ≤ 16) :
    Calls Try.prog 71 #[.int .i64 (a : Int), .int .i64 (n : Int)] w fun e w' => e = .returned (.int .i64 (szI a n)) ∧ w = w' := by
  go_enter Try.func71, Try.ntmps71
  go_wp2_with fail
  go_loop [5] (fun s => SzRel a n s) (fun s => 16 - (intOf s).toNat)
  case atStart => exact Or.inl ⟨rfl, rfl⟩
  case round =>
    rcases hrel with ⟨rfl, hh⟩ | ⟨rfl, hh⟩ | ⟨rfl, hh⟩ | ⟨rfl, hh⟩ | ⟨rfl, hh⟩
    · have H := hid' hh
      clear hh
      by_cases h1 : a % 2 = 0
      · have t1 : (((a : Int) % 2) == 0) = true := beq_iff_eq.2 (by omega)
        by_cases h2 : a + 2 ≤ n
        · have HY := hid' ((htF_yes (f := 3) h1 h2).symm.trans H.out)
          go_wp2_with fail
          go_round
          case rel => exact Or.inr (Or.inl ⟨rfl, HY.out⟩)
          case measure => simp [intOf]
        · have HZ := hid' (szI_of (H.out.symm.trans (htF_no (f := 3) (j := 0) (.inr (by omega)))) (rfl : (1 : Int) = _))
          go_wp2_with fail
          go_ret
          exact ⟨retI HZ.out.symm, rfl⟩
      · have t1 : (((a : Int) % 2) == 0) = false := beq_eq_false_iff_ne.2 (by omega)
        have HZ := hid' (szI_of (H.out.symm.trans (htF_no (f := 3) (j := 0) (.inl h1))) (rfl : (1 : Int) = _))
        go_wp2_with fail
        go_ret
        exact ⟨retI HZ.out.symm, rfl⟩
    · have H := hid' hh
      clear hh
      by_cases h1 : a % 4 = 0
      · have t1 : (((a : Int) % 4) == 0) = true := beq_iff_eq.2 (by omega)
        by_cases h2 : a + 4 ≤ n
        · have HY := hid' ((htF_yes (f := 2) h1 h2).symm.trans H.out)
          go_wp2_with fail
          go_round
          case rel => exact Or.inr (Or.inr (Or.inl ⟨rfl, HY.out⟩))
          case measure => simp [intOf]
        · have HZ := hid' (szI_of (H.out.symm.trans (htF_no (f := 2) (j := 1) (.inr (by omega)))) (rfl : (2 : Int) = _))
          go_wp2_with fail
          go_ret
          exact ⟨retI HZ.out.symm, rfl⟩
      · have t1 : (((a : Int) % 4) == 0) = false := beq_eq_false_iff_ne.2 (by omega)
        have HZ := hid' (szI_of (H.out.symm.trans (htF_no (f := 2) (j := 1) (.inl h1))) (rfl : (2 : Int) = _))
        go_wp2_with fail
        go_ret
        exact ⟨retI HZ.out.symm, rfl⟩
    · have H := hid' hh
      clear hh
      by_cases h1 : a % 8 = 0
      · have t1 : (((a : Int) % 8) == 0) = true := beq_iff_eq.2 (by omega)
        by_cases h2 : a + 8 ≤ n
        · have HY := hid' ((htF_yes (f := 1) h1 h2).symm.trans H.out)
          go_wp2_with fail
          go_round
          case rel => exact Or.inr (Or.inr (Or.inr (Or.inl ⟨rfl, HY.out⟩)))
          case measure => simp [intOf]
        · have HZ := hid' (szI_of (H.out.symm.trans (htF_no (f := 1) (j := 2) (.inr (by omega)))) (rfl : (4 : Int) = _))
          go_wp2_with fail
          go_ret
          exact ⟨retI HZ.out.symm, rfl⟩
      · have t1 : (((a : Int) % 8) == 0) = false := beq_eq_false_iff_ne.2 (by omega)
        have HZ := hid' (szI_of (H.out.symm.trans (htF_no (f := 1) (j := 2) (.inl h1))) (rfl : (4 : Int) = _))
        go_wp2_with fail
        go_ret
        exact ⟨retI HZ.out.symm, rfl⟩
    · have H := hid' hh
      clear hh
      by_cases h1 : a % 16 = 0
      · have t1 : (((a : Int) % 16) == 0) = true := beq_iff_eq.2 (by omega)
        by_cases h2 : a + 16 ≤ n
        · have HY := hid' ((htF_yes (f := 0) h1 h2).symm.trans H.out)
          go_wp2_with fail
          go_round
          case rel => exact Or.inr (Or.inr (Or.inr (Or.inr ⟨rfl, HY.out⟩)))
          case measure => simp [intOf]
        · have HZ := hid' (szI_of (H.out.symm.trans (htF_no (f := 0) (j := 3) (.inr (by omega)))) (rfl : (8 : Int) = _))
          go_wp2_with fail
          go_ret
          exact ⟨retI HZ.out.symm, rfl⟩
      · have t1 : (((a : Int) % 16) == 0) = false := beq_eq_false_iff_ne.2 (by omega)
        have HZ := hid' (szI_of (H.out.symm.trans (htF_no (f := 0) (j := 3) (.inl h1))) (rfl : (8 : Int) = _))
        go_wp2_with fail
        go_ret
        exact ⟨retI HZ.out.symm, rfl⟩
    · have H := hid' hh
      clear hh
      have HZ := hid' (szI_of H.out.symm (rfl : (16 : Int) = _))
      by_cases h1 : a % 32 = 0
      · have t1 : (((a : Int) % 32) == 0) = true := beq_iff_eq.2 (by omega)
        go_wp2_with fail
        go_ret
        exact ⟨retI HZ.out.symm, rfl⟩
      · have t1 : (((a : Int) % 32) == 0) = false := beq_eq_false_iff_ne.2 (by omega)
        go_wp2_with fail
        go_ret
        exact ⟨retI HZ.out.symm, rfl⟩
end Go.Proofs.Ytcocknfdafmfnaa
