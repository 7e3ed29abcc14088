/- The walks of the functions on numbers. -/
import Derived.Test.YtjmgkcmmhkpmhaaRows
import Derived.Test.YtjmgkcmmhkpmhaaPure
import Derived.Test.YtjmgkcmmhkpmhaaBase
import Derived.WalkKit
import Derived.WalkLawsBesides
import Derived.WalkSpells
import Derived.BigQuiet
import Derived.Deep.QuietTactic
namespace Go.Proofs.Ytjmgkcmmhkpmhaa
set_option linter.unusedVariables false
open Go.RowKit

theorem hid' {p : Prop} (h : p) : Hid p := h
theorem retI {a b : Int} (h : a = b) : Ending.returned (.int .i64 a) = .returned (.int .i64 b) := by rw [h]
theorem retB {a b : Bool} (h : a = b) : Ending.returned (.bool a) = .returned (.bool b) := by rw [h]

theorem quietL {P : Program} {f : FuncId} {args : Array Value} {w : World} {n : Nat} {v : Value} (h : Calls P f args (w.drewN n) fun e w' => e = .returned v ∧ w.drewN n = w') :
    Calls P f args (w.drewN n) fun e w'' => e = .returned v ∧ ∃ m, w'' = w.drewN m :=
  h.mono fun _ _ hh => ⟨hh.1, n, hh.2.symm⟩
theorem quietA {P : Program} {f : FuncId} {args : Array Value} {w : World} {a n : Nat} {v : Value} (h : Calls P f args (w.drewN (a + n)) fun e w' => e = .returned v ∧ w.drewN (a + n) = w') :
    Calls P f args (w.drewN (a + n)) fun e w'' => e = .returned v ∧ ∃ m, w'' = w.drewN (a + m) :=
  h.mono fun _ _ hh => ⟨hh.1, n, hh.2.symm⟩
theorem below_drewN {B : Nat} {a w : World} (h : Below B a w) (n : Nat) : Below B a (w.drewN n) := ⟨h.os, h.tape, h.output, h.size, h.block⟩

theorem within_b (n lo hi : Int) (b : Bool) (w : World) (h : inB n lo hi = b) : Calls Try.prog 50 #[.int .i64 n, .int .i64 lo, .int .i64 hi] w fun e w' => e = .returned (.bool b) ∧ w = w' := by
  subst h
  by_cases h1 : lo ≤ n
  · by_cases h2 : n ≤ hi
    · have H : Hid (inB n lo hi = true) := inB_true.2 ⟨h1, h2⟩
      go_enter Try.func50, Try.ntmps50
      go_wp2
      go_ret
      exact ⟨retB H.out.symm, rfl⟩
    · have H : Hid (inB n lo hi = false) := inB_false.2 (by omega)
      have h2' : decide (n ≤ hi) = false := by simp; omega
      go_enter Try.func50, Try.ntmps50
      go_wp2
      go_ret
      exact ⟨retB H.out.symm, rfl⟩
  · have H : Hid (inB n lo hi = false) := inB_false.2 (by omega)
    have h1' : decide (lo ≤ n) = false := by simp; omega
    go_enter Try.func50, Try.ntmps50
    go_wp2
    go_ret
    exact ⟨retB H.out.symm, rfl⟩

theorem l6In_b (n lo hi : Int) (b : Bool) (w : World) (h : inB n lo hi = b) : Calls Try.prog 59 #[.int .i64 n, .int .i64 lo, .int .i64 hi] w fun e w' => e = .returned (.bool b) ∧ w = w' := by
  subst h
  by_cases h1 : lo ≤ n
  · by_cases h2 : n ≤ hi
    · have H : Hid (inB n lo hi = true) := inB_true.2 ⟨h1, h2⟩
      go_enter Try.func59, Try.ntmps59
      go_wp2
      go_ret
      exact ⟨retB H.out.symm, rfl⟩
    · have H : Hid (inB n lo hi = false) := inB_false.2 (by omega)
      have h2' : decide (n ≤ hi) = false := by simp; omega
      go_enter Try.func59, Try.ntmps59
      go_wp2
      go_ret
      exact ⟨retB H.out.symm, rfl⟩
  · have H : Hid (inB n lo hi = false) := inB_false.2 (by omega)
    have h1' : decide (lo ≤ n) = false := by simp; omega
    go_enter Try.func59, Try.ntmps59
    go_wp2
    go_ret
    exact ⟨retB H.out.symm, rfl⟩

theorem isKey_b (n : Int) (b : Bool) (w : World) (h : keyB n = b) : Calls Try.prog 54 #[.int .i64 n] w fun e w' => e = .returned (.bool b) ∧ w = w' := by
  have h' : inB n 1 996 = b := h
  go_enter Try.func54, Try.ntmps54
  (go_wp2_with fail; (with_reducible refine (within_b n 1 996 b _ h').mono ?_); rintro _ _ ⟨rfl, rfl⟩)
  go_wp2_with fail
  go_ret
  exact ⟨rfl, rfl⟩
theorem l3Key_b (n : Int) (b : Bool) (w : World) (h : keyB n = b) : Calls Try.prog 52 #[.int .i64 n] w fun e w' => e = .returned (.bool b) ∧ w = w' := by
  have h' : inB n 1 996 = b := h
  go_enter Try.func52, Try.ntmps52
  (go_wp2_with fail; (with_reducible refine (l6In_b n 1 996 b _ h').mono ?_); rintro _ _ ⟨rfl, rfl⟩)
  go_wp2_with fail
  go_ret
  exact ⟨rfl, rfl⟩



end Go.Proofs.Ytjmgkcmmhkpmhaa
