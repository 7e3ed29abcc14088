/- The walks of the functions on numbers. -/
import Derived.Test.YtcocknfdafmfnaaRows
import Derived.Test.YtcocknfdafmfnaaPure
import Derived.Test.YtcocknfdafmfnaaBase
import Derived.WalkKit
import Derived.WalkLawsBesides
import Derived.WalkSpells
import Derived.BigQuiet
import Derived.Deep.QuietTactic
namespace Go.Proofs.Ytcocknfdafmfnaa
set_option linter.unusedVariables false
open Go.RowKit

theorem hid' {p : Prop} (h : p) : Hid p := h
theorem retI {a b : Int} (h : a = b) : Ending.returned (.int .i64 a) = .returned (.int .i64 b) := by rw [h]
theorem retB {a b : Bool} (h : a = b) : Ending.returned (.bool a) = .returned (.bool b) := by rw [h]

theorem quietL {P : Program} {f : FuncId} {args : Array Value} {w : World} {n : Nat} {v : Value} (h : Calls P f args (w.drewN n) fun e w' => e = .returned v ∧ w.drewN n = w') :
    Calls P f args (w.drewN n) fun e w'' => e = .returned v ∧ ∃ m, w'' = w.drewN m :=
  h.mono fun _ _ hh => ⟨hh.1, n, hh.2.symm⟩
theorem quietA {P : Program} {f : FuncId} {args : Array Value} {w : World} {a n : Nat} {v : Value} (h : Calls P f args (w.drewN (a + n)) fun e w' => e = .returned v ∧ w.drewN (a + n) = w') :
    Calls P f args (w.drewN (a + n)) fun e w'' => e = .returned v ∧ ∃ m, w'' = w.drewN (a + m) :=
  h.mono fun _ _ hh => ⟨hh.1, n, hh.2.symm⟩
theorem below_drewN {B : Nat} {a w : World} (h : Below B a w) (n : Nat) : Below B a (w.drewN n) := ⟨h.os, h.tape, h.output, h.size, h.block⟩

theorem within_b (n lo hi : Int) (b : Bool) (w : World) (h : inB n lo hi = b) : Calls Try.prog 25 #[.int .i64 n, .int .i64 lo, .int .i64 hi] w fun e w' => e = .returned (.bool b) ∧ w = w' := by
  subst h
  by_cases h1 : lo ≤ n
  · by_cases h2 : n ≤ hi
    · have H : Hid (inB n lo hi = true) := inB_true.2 ⟨h1, h2⟩
      go_enter Try.func25, Try.ntmps25
      go_wp2
      go_ret
      exact ⟨retB H.out.symm, rfl⟩
    · have H : Hid (inB n lo hi = false) := inB_false.2 (by omega)
      have h2' : decide (n ≤ hi) = false := by simp; omega
      go_enter Try.func25, Try.ntmps25
      go_wp2
      go_ret
      exact ⟨retB H.out.symm, rfl⟩
  · have H : Hid (inB n lo hi = false) := inB_false.2 (by omega)
    have h1' : decide (lo ≤ n) = false := by simp; omega
    go_enter Try.func25, Try.ntmps25
    go_wp2
    go_ret
    exact ⟨retB H.out.symm, rfl⟩

theorem l6In_b (n lo hi : Int) (b : Bool) (w : World) (h : inB n lo hi = b) : Calls Try.prog 40 #[.int .i64 n, .int .i64 lo, .int .i64 hi] w fun e w' => e = .returned (.bool b) ∧ w = w' := by
  subst h
  by_cases h1 : lo ≤ n
  · by_cases h2 : n ≤ hi
    · have H : Hid (inB n lo hi = true) := inB_true.2 ⟨h1, h2⟩
      go_enter Try.func40, Try.ntmps40
      go_wp2
      go_ret
      exact ⟨retB H.out.symm, rfl⟩
    · have H : Hid (inB n lo hi = false) := inB_false.2 (by omega)
      have h2' : decide (n ≤ hi) = false := by simp; omega
      go_enter Try.func40, Try.ntmps40
      go_wp2
      go_ret
      exact ⟨retB H.out.symm, rfl⟩
  · have H : Hid (inB n lo hi = false) := inB_false.2 (by omega)
    have h1' : decide (lo ≤ n) = false := by simp; omega
    go_enter Try.func40, Try.ntmps40
    go_wp2
    go_ret
    exact ⟨retB H.out.symm, rfl⟩

theorem isDigest_b (n : Int) (b : Bool) (w : World) (h : digB n = b) : Calls Try.prog 26 #[.int .i64 n] w fun e w' => e = .returned (.bool b) ∧ w = w' := by
  have h' : inB n 0 990 = b := h
  go_enter Try.func26, Try.ntmps26
  (go_wp2_with fail; (with_reducible refine (within_b n 0 990 b _ h').mono ?_); rintro _ _ ⟨rfl, rfl⟩)
  go_wp2_with fail
  go_ret
  exact ⟨rfl, rfl⟩
theorem l1Digest_b (n : Int) (b : Bool) (w : World) (h : digB n = b) : Calls Try.prog 41 #[.int .i64 n] w fun e w' => e = .returned (.bool b) ∧ w = w' := by
  have h' : inB n 0 990 = b := h
  go_enter Try.func41, Try.ntmps41
  (go_wp2_with fail; (with_reducible refine (l6In_b n 0 990 b _ h').mono ?_); rintro _ _ ⟨rfl, rfl⟩)
  go_wp2_with fail
  go_ret
  exact ⟨rfl, rfl⟩
theorem isKey_b (n : Int) (b : Bool) (w : World) (h : keyB n = b) : Calls Try.prog 24 #[.int .i64 n] w fun e w' => e = .returned (.bool b) ∧ w = w' := by
  have h' : inB n 1 996 = b := h
  go_enter Try.func24, Try.ntmps24
  (go_wp2_with fail; (with_reducible refine (within_b n 1 996 b _ h').mono ?_); rintro _ _ ⟨rfl, rfl⟩)
  go_wp2_with fail
  go_ret
  exact ⟨rfl, rfl⟩
theorem l3Key_b (n : Int) (b : Bool) (w : World) (h : keyB n = b) : Calls Try.prog 39 #[.int .i64 n] w fun e w' => e = .returned (.bool b) ∧ w = w' := by
  have h' : inB n 1 996 = b := h
  go_enter Try.func39, Try.ntmps39
  (go_wp2_with fail; (with_reducible refine (l6In_b n 1 996 b _ h').mono ?_); rintro _ _ ⟨rfl, rfl⟩)
  go_wp2_with fail
  go_ret
  exact ⟨rfl, rfl⟩

theorem l1Pair_any (a b : Int) (w : World) (h1 : 0 ≤ a) (h2 : a ≤ 1000000) (h3 : 0 ≤ b) (h4 : b ≤ 1000000) :
    Calls Try.prog 51 #[.int .i64 a, .int .i64 b] w fun e w' => e = .returned (.int .i64 (pr a b)) ∧ w = w' := by
  go_enter Try.func51, Try.ntmps51
  go_wp2
  go_ret
  exact ⟨rfl, rfl⟩

theorem iDigestPair_any (a b : Int) (w : World) : Calls Try.prog 43 #[.int .i64 a, .int .i64 b] w fun e w' => e = .returned (.int .i64 (dpair a b)) ∧ w = w' := by
  cases ha : digB a
  · have HD : Hid (dpair a b = -1) := if_neg (fun h => by rw [ha] at h; cases h.1)
    go_enter Try.func43, Try.ntmps43
    (go_wp2_with fail; (with_reducible refine (isDigest_b a false _ ha).mono ?_); rintro _ _ ⟨rfl, rfl⟩)
    go_wp2_with fail
    go_ret
    exact ⟨retI HD.out.symm, rfl⟩
  · cases hb : digB b
    · have HD : Hid (dpair a b = -1) := if_neg (fun h => by rw [hb] at h; cases h.2)
      go_enter Try.func43, Try.ntmps43
      (go_wp2_with fail; (with_reducible refine (isDigest_b a true _ ha).mono ?_); rintro _ _ ⟨rfl, rfl⟩)
      (go_wp2_with fail; (with_reducible refine (isDigest_b b false _ hb).mono ?_); rintro _ _ ⟨rfl, rfl⟩)
      go_wp2_with fail
      go_ret
      exact ⟨retI HD.out.symm, rfl⟩
    · have HD : Hid (dpair a b = pr a b) := dpair_ok ha hb
      obtain ⟨a0, a1⟩ := digB_true.1 ha
      obtain ⟨b0, b1⟩ := digB_true.1 hb
      go_enter Try.func43, Try.ntmps43
      (go_wp2_with fail; (with_reducible refine (isDigest_b a true _ ha).mono ?_); rintro _ _ ⟨rfl, rfl⟩)
      (go_wp2_with fail; (with_reducible refine (isDigest_b b true _ hb).mono ?_); rintro _ _ ⟨rfl, rfl⟩)
      go_wp2_with fail
      go_ret
      exact ⟨retI HD.out.symm, rfl⟩

end Go.Proofs.Ytcocknfdafmfnaa
