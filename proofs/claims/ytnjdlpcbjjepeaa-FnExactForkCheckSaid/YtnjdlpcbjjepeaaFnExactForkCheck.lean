/-
  The statement of the law FnExactForkCheck: whatever the arguments, the call returns true, and each argument reads behind it as before. No condition of its own.
-/
import Derived.Test.YtnjdlpcbjjepeaaLawF
import Derived.Test.YtnjdlpcbjjepeaaRows
import Derived.Test.YtnjdlpcbjjepeaaOpen
import Derived.WalkKit
import Derived.ProofKit
import Derived.OpenShut
import Derived.ShutString
import Derived.ChangeOld
import Derived.Below
import Derived.Lib.SmallJoins
import Derived.Deep.Grids
namespace Go.Proofs.Ytnjdlpcbjjepeaa.fnExactForkCheck
open Go.ChangeShapes Go.WideShapes Go.ChangeAt Go.RowKit
open Go.ChangeMaps (open_string shut_string)
set_option linter.unusedVariables false

theorem own : ownKnob Try.prog.godebug = none := by kernel_rfl
theorem laidOut : laidOutB Try.prog = true := by kernel_rfl

theorem walk (z00 z01 z02 z03 z04 z05 z06 : Int) (w : World) (wz00 : (Lit.int .i64 z00).wf = true) (wz01 : (Lit.int .i64 z01).wf = true) (wz02 : (Lit.int .i64 z02).wf = true) (wz03 : (Lit.int .i64 z03).wf = true) (wz04 : (Lit.int .i64 z04).wf = true) (wz05 : (Lit.int .i64 z05).wf = true) (wz06 : (Lit.int .i64 z06).wf = true) :
    Calls Try.prog 8 #[.agg #[.int .i64 z00, .int .i64 z01, .int .i64 z02, .int .i64 z03, .int .i64 z04, .int .i64 z05, .int .i64 z06]] w fun e w' => e = .returned (.bool true) ∧ Below w.heap.size w w' :=
  walk_FnExactForkCheck z00 z01 z02 z03 z04 z05 z06 w wz00 wz01 wz02 wz03 wz04 wz05 wz06

set_option maxRecDepth 100000 in
theorem lifted (os : Os) (started : os.Started) (H : Type) (enc : TypeId × Value → H) :
    ReturnsInHanded {} Try.checked os 8 .any (Rows.fnExactForkCheckSpec.pre6 enc Try.prog Try.f8 Rows.fnExactForkCheckRow.domain false) (Rows.fnExactForkCheckSpec.post enc Try.prog Try.f8 false true false false) := by
  refine returnsInHanded_of_change (C := Try.checked) own started (by kernel_rfl) Try.func8
    (ChangeSpec.witness6 (enc := enc) (C := Try.checked) false ⟨#[], #[.agg #[.int .i64 0, .int .i64 0, .int .i64 0, .int .i64 0, .int .i64 0, .int .i64 0, .int .i64 0]], []⟩ 8 (by kernel_rfl) (by kernel_rfl) (by kernel_rfl) (by kernel_rfl)) ?_
  intro W base args ds gs before hval0 hW hcnd _
  have hval : ∀ (j : Nat) t v, Try.f8.params[j]? = some t → args[j]? = some v → Value.okWide Try.prog W .any base t v := hval0
  have hW' := hW
  obtain ⟨p, q, hA0, hV, rfl, hfz, hnd⟩ := hW
  have hA : DataW.TrodAll enc Try.prog W 0 (fun _ => true) true Try.f8.params.toList args.toList ds p := hA0
  rw [Try.params8] at hA hval
  obtain ⟨v0, vs0, d0, ds0, p0, q0, hargs, rfl, rfl, h0, r0⟩ := trodAll_cons hA
  obtain ⟨rfl, rfl, rfl⟩ := trodAll_nil r0
  obtain rfl : args = #[v0] := by cases args; simp_all
  obtain ⟨rfl, rfl⟩ := trodVars_none hV
  have k0 := h0
  have lt0 : ∀ x ∈ p0, x.block < W.heap.size := by obtain ⟨m, hm⟩ := k0; exact DataW.trod_lt m _ _ _ hm
  obtain ⟨z00, z01, z02, z03, z04, z05, z06, rfl, wz00, wz01, wz02, wz03, wz04, wz05, wz06⟩ := open_fork (hval 0 36 v0 rfl rfl) h0
  clear hA0 hval0
  refine (walk z00 z01 z02 z03 z04 z05 z06 W wz00 wz01 wz02 wz03 wz04 wz05 wz06).mono fun e W' ⟨he, bel⟩ => ?_
  subst he
  exact ⟨_, rfl, _, _, _, [], _, [], hW', trodAll_mk1 (shut_bool Try.underlying4 _), (trodAll_cons_mk (Below.trod laidOut (by kernel_rfl) (of_decide_eq_true (by kernel_rfl)) k0 bel lt0) trodAll_mk0), rfl, bel.frame _, fun h => by cases h⟩

theorem over : Rows.fnExactForkCheckRow.holds Try.pinned (OpenSpec.ofChange Rows.fnExactForkCheckSpec) :=
  OpenClaim.holds_of_wide 8 Try.f8 rfl rfl rfl rfl rfl rfl rfl ⟨rfl, rfl, rfl, rfl, rfl⟩ rfl rfl rfl rfl rfl (by kernel_rfl) Try.func8 (by kernel_rfl)
    (of_decide_eq_true (by kernel_rfl)) (by unfold Func.isWrapper; first | (rw [if_pos (by decide +kernel)]; kernel_rfl) | (rw [if_neg (by decide +kernel)]; exact ⟨rfl, rfl⟩))
    (fun os started H enc _ => lifted os started H enc)

theorem proved : Rows.FnExactForkCheckSaid := over
end Go.Proofs.Ytnjdlpcbjjepeaa.fnExactForkCheck
