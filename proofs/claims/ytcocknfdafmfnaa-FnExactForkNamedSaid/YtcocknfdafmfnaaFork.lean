/- The walks of the functions on forks. -/
import Derived.Test.YtcocknfdafmfnaaHead
namespace Go.Proofs.Ytcocknfdafmfnaa
set_option linter.unusedVariables false
open Go.RowKit

set_option maxHeartbeats 1000000 in
theorem iForkCheck_b (p la da sa lb db sb : Int) (b : Bool) (w : World) (h : fkB p la da sa lb db sb = b) :
    Calls Try.prog 8 #[.agg #[.int .i64 p, .int .i64 la, .int .i64 da, .int .i64 sa, .int .i64 lb, .int .i64 db, .int .i64 sb]] w fun e w' => e = .returned (.bool b) ∧ Below w.heap.size w w' := by
  subst h
  cases ha : hcB p la da sa
  · have H : Hid (fkB p la da sa lb db sb = false) := by unfold Hid fkB; rw [ha]; simp
    go_enter Try.func8, Try.ntmps8
    (go_wp2_with fail; (with_reducible refine (iHeadCheck_b p la da sa false _ ha).mono ?_))
    rintro _ w1 ⟨rfl, b1⟩
    go_wp2_with fail
    go_ret
    exact ⟨retB H.out.symm, bstep (bnew w _) b1⟩
  · cases hb : hcB p lb db sb
    · have H : Hid (fkB p la da sa lb db sb = false) := by unfold Hid fkB; rw [ha, hb]; simp
      go_enter Try.func8, Try.ntmps8
      (go_wp2_with fail; (with_reducible refine (iHeadCheck_b p la da sa true _ ha).mono ?_))
      rintro _ w1 ⟨rfl, b1⟩
      have x1 := (Box.new w _ _).next b1
      obtain ⟨c0, c1, c2, c3, c4, c5, c6⟩ := x1.c7
      (go_wp2_with fail; (with_reducible refine (iHeadCheck_b p lb db sb false _ hb).mono ?_))
      rintro _ w2 ⟨rfl, b2⟩
      go_wp2_with fail
      go_ret
      exact ⟨retB H.out.symm, bstep (bstep (bnew w _) b1) b2⟩
    · have H : Hid (fkB p la da sa lb db sb = ((la == lb) && !(da == db))) := by unfold Hid fkB; rw [ha, hb]; simp
      rcases (show la = lb ∨ la ≠ lb from Decidable.em _) with hl | hl
      · subst hl
        go_enter Try.func8, Try.ntmps8
        (go_wp2_with fail; (with_reducible refine (iHeadCheck_b p la da sa true _ ha).mono ?_))
        rintro _ w1 ⟨rfl, b1⟩
        have x1 := (Box.new w _ _).next b1
        obtain ⟨c0, c1, c2, c3, c4, c5, c6⟩ := x1.c7
        (go_wp2_with fail; (with_reducible refine (iHeadCheck_b p la db sb true _ hb).mono ?_))
        rintro _ w2 ⟨rfl, b2⟩
        have x2 := x1.next b2
        clear c0 c1 c2 c3 c4 c5 c6
        obtain ⟨c0, c1, c2, c3, c4, c5, c6⟩ := x2.c7
        go_wp2_with fail
        go_ret
        refine ⟨retB (Eq.trans ?_ H.out.symm), bstep (bstep (bnew w _) b1) b2⟩
        simp [bne]
      · have hl' : (la == lb) = false := by simp [hl]
        rw [hl'] at H
        clear hl
        go_enter Try.func8, Try.ntmps8
        (go_wp2_with fail; (with_reducible refine (iHeadCheck_b p la da sa true _ ha).mono ?_))
        rintro _ w1 ⟨rfl, b1⟩
        have x1 := (Box.new w _ _).next b1
        obtain ⟨c0, c1, c2, c3, c4, c5, c6⟩ := x1.c7
        (go_wp2_with fail; (with_reducible refine (iHeadCheck_b p lb db sb true _ hb).mono ?_))
        rintro _ w2 ⟨rfl, b2⟩
        have x2 := x1.next b2
        clear c0 c1 c2 c3 c4 c5 c6
        obtain ⟨c0, c1, c2, c3, c4, c5, c6⟩ := x2.c7
        go_wp2_with fail
        go_ret
        refine ⟨retB (Eq.trans ?_ H.out.symm), bstep (bstep (bnew w _) b1) b2⟩
        simp
set_option maxHeartbeats 1000000 in
theorem sForkCheck_b (p la da sa lb db sb : Int) (b : Bool) (w : World) (h : fkB p la da sa lb db sb = b) :
    Calls Try.prog 9 #[.agg #[.int .i64 p, .int .i64 la, .int .i64 da, .int .i64 sa, .int .i64 lb, .int .i64 db, .int .i64 sb]] w fun e w' => e = .returned (.bool b) ∧ Below w.heap.size w w' := by
  subst h
  cases ha : hcB p la da sa
  · have H : Hid (fkB p la da sa lb db sb = false) := by unfold Hid fkB; rw [ha]; simp
    go_enter Try.func9, Try.ntmps9
    (go_wp2_with fail; (with_reducible refine (sHeadCheck_b p la da sa false _ ha).mono ?_))
    rintro _ w1 ⟨rfl, b1⟩
    go_wp2_with fail
    go_ret
    exact ⟨retB H.out.symm, bstep (bnew w _) b1⟩
  · cases hb : hcB p lb db sb
    · have H : Hid (fkB p la da sa lb db sb = false) := by unfold Hid fkB; rw [ha, hb]; simp
      go_enter Try.func9, Try.ntmps9
      (go_wp2_with fail; (with_reducible refine (sHeadCheck_b p la da sa true _ ha).mono ?_))
      rintro _ w1 ⟨rfl, b1⟩
      have x1 := (Box.new w _ _).next b1
      obtain ⟨c0, c1, c2, c3, c4, c5, c6⟩ := x1.c7
      (go_wp2_with fail; (with_reducible refine (sHeadCheck_b p lb db sb false _ hb).mono ?_))
      rintro _ w2 ⟨rfl, b2⟩
      go_wp2_with fail
      go_ret
      exact ⟨retB H.out.symm, bstep (bstep (bnew w _) b1) b2⟩
    · have H : Hid (fkB p la da sa lb db sb = ((la == lb) && !(da == db))) := by unfold Hid fkB; rw [ha, hb]; simp
      rcases (show la = lb ∨ la ≠ lb from Decidable.em _) with hl | hl
      · subst hl
        go_enter Try.func9, Try.ntmps9
        (go_wp2_with fail; (with_reducible refine (sHeadCheck_b p la da sa true _ ha).mono ?_))
        rintro _ w1 ⟨rfl, b1⟩
        have x1 := (Box.new w _ _).next b1
        obtain ⟨c0, c1, c2, c3, c4, c5, c6⟩ := x1.c7
        (go_wp2_with fail; (with_reducible refine (sHeadCheck_b p la db sb true _ hb).mono ?_))
        rintro _ w2 ⟨rfl, b2⟩
        have x2 := x1.next b2
        clear c0 c1 c2 c3 c4 c5 c6
        obtain ⟨c0, c1, c2, c3, c4, c5, c6⟩ := x2.c7
        go_wp2_with fail
        go_ret
        refine ⟨retB (Eq.trans ?_ H.out.symm), bstep (bstep (bnew w _) b1) b2⟩
        simp [bne]
      · have hl' : (la == lb) = false := by simp [hl]
        rw [hl'] at H
        clear hl
        go_enter Try.func9, Try.ntmps9
        (go_wp2_with fail; (with_reducible refine (sHeadCheck_b p la da sa true _ ha).mono ?_))
        rintro _ w1 ⟨rfl, b1⟩
        have x1 := (Box.new w _ _).next b1
        obtain ⟨c0, c1, c2, c3, c4, c5, c6⟩ := x1.c7
        (go_wp2_with fail; (with_reducible refine (sHeadCheck_b p lb db sb true _ hb).mono ?_))
        rintro _ w2 ⟨rfl, b2⟩
        have x2 := x1.next b2
        clear c0 c1 c2 c3 c4 c5 c6
        obtain ⟨c0, c1, c2, c3, c4, c5, c6⟩ := x2.c7
        go_wp2_with fail
        go_ret
        refine ⟨retB (Eq.trans ?_ H.out.symm), bstep (bstep (bnew w _) b1) b2⟩
        simp
end Go.Proofs.Ytcocknfdafmfnaa
