/- The laws on forks: an argument that is a struct of structs. -/
import Derived.Test.YtnjdlpcbjjepeaaLawA
import Derived.Test.YtnjdlpcbjjepeaaFork
import Derived.Handy
namespace Go.Proofs.Ytnjdlpcbjjepeaa
set_option linter.unusedVariables false
open Go.RowKit

set_option maxHeartbeats 2000000 in
theorem toFork_any (p la da sa lb db sb : Int) (w : World) :
    Calls Try.prog 25 #[.agg #[.int .i64 p, .int .i64 la, .int .i64 da, .int .i64 sa, .int .i64 lb, .int .i64 db, .int .i64 sb]] w fun e w' =>
      e = .returned (.agg #[.int .i64 p, .int .i64 la, .int .i64 da, .int .i64 sa, .int .i64 lb, .int .i64 db, .int .i64 sb]) ∧ Below w.heap.size w w' := by
  go_enter Try.func25, Try.ntmps25
  go_wp2
  go_outline
  refine bodyPost_ret (v := .agg #[.int .i64 p, .int .i64 la, .int .i64 da, .int .i64 sa, .int .i64 lb, .int .i64 db, .int .i64 sb]) (by simp [results, Try.results25, go_sem]) rfl ⟨rfl, ?_⟩
  go_grown
theorem walk_FnExactForkCheck (p la da sa lb db sb : Int) (w : World) (_ : (Lit.int .i64 p).wf = true) (_ : (Lit.int .i64 la).wf = true) (_ : (Lit.int .i64 da).wf = true) (_ : (Lit.int .i64 sa).wf = true) (_ : (Lit.int .i64 lb).wf = true) (_ : (Lit.int .i64 db).wf = true) (_ : (Lit.int .i64 sb).wf = true) :
    Calls Try.prog 8 #[.agg #[.int .i64 p, .int .i64 la, .int .i64 da, .int .i64 sa, .int .i64 lb, .int .i64 db, .int .i64 sb]] w fun e w' => e = .returned (.bool true) ∧ Below w.heap.size w w' := by
  obtain ⟨b, hb⟩ : ∃ b, fkB p la da sa lb db sb = b := ⟨_, rfl⟩
  go_enter Try.func8, Try.ntmps8
  (go_wp2_with fail; (with_reducible refine (toFork_any p la da sa lb db sb _).mono ?_))
  rintro _ w1 ⟨rfl, b1⟩
  have x1 := (Box.new w _ _).next b1
  (go_wp2_with fail; (with_reducible refine (sForkCheck_b p la da sa lb db sb b _ hb).mono ?_))
  rintro _ w2 ⟨rfl, b2⟩
  have x2 := x1.next b2
  obtain ⟨c0, c1, c2, c3, c4, c5, c6⟩ := x2.c7
  (go_wp2_with fail; (with_reducible refine (toFork_any p la da sa lb db sb _).mono ?_))
  rintro _ w3 ⟨rfl, b3⟩
  (go_wp2_with fail; (with_reducible refine (iForkCheck_b p la da sa lb db sb b _ hb).mono ?_))
  rintro _ w4 ⟨rfl, b4⟩
  have bb : (b != b) = false := by simp
  go_wp2_with fail
  go_ret
  exact ⟨rfl, bstep (bstep (bstep (bstep (bnew w _) b1) b2) b3) b4⟩
end Go.Proofs.Ytnjdlpcbjjepeaa
