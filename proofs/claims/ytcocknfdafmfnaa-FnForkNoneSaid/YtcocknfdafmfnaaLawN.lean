/- The walk of the law that without proofs nobody is named. -/
import Derived.Test.YtcocknfdafmfnaaLawK
import Derived.Test.YtcocknfdafmfnaaForkN
namespace Go.Proofs.Ytcocknfdafmfnaa
set_option linter.unusedVariables false
open Go.RowKit
theorem rf_one (w : World) (p la da sa lb db sb : Int) (t : TypeId) : RF (w.alloc (.cells #[.int .i64 p, .int .i64 la, .int .i64 da, .int .i64 sa, .int .i64 lb, .int .i64 db, .int .i64 sb] t)) (w.alloc (.cells #[.int .i64 p, .int .i64 la, .int .i64 da, .int .i64 sa, .int .i64 lb, .int .i64 db, .int .i64 sb] t)).heap.size (.slice (some ⟨w.heap.size, 0, none⟩) 1 1) [⟨p, la, da, sa, lb, db, sb⟩] := by
  refine ⟨_, 1, rfl, Nat.le_refl _, by decide, fun _ => ⟨w.heap.size, 0, rfl, by simp, fun i f hi j u hu => ?_⟩⟩
  match i, hi with
  | 0, hi =>
    simp only [List.getElem?_cons_zero, Option.some.injEq] at hi
    subst hi
    have h := (Box.new w t #[.int .i64 p, .int .i64 la, .int .i64 da, .int .i64 sa, .int .i64 lb, .int .i64 db, .int .i64 sb]).cell j
    rw [show (0 : Nat) + 0 * 7 + j = j by omega, h]
    rw [List.getElem?_toArray]; exact hu
theorem rf_nil (w : World) (B : Nat) (A : Option Addr) : RF w B (.slice A 0 0) [] := ⟨A, 0, rfl, Nat.le_refl _, by decide, fun h => by simp at h⟩
set_option maxHeartbeats 8000000 in
set_option maxRecDepth 100000 in
theorem walk_FnForkNone (v0 : Value) (L0 : List Int) (w : World) (r0 : RV w w.heap.size v0 (L0.map (Value.int .u8))) (b0 : ∀ n ∈ L0, (Lit.int .u8 n).wf = true) :
    Calls Try.prog 6 #[v0] w fun e w' => e = .returned (.bool true) ∧ Below w.heap.size w w' := by
  have rr0 := r0
  obtain ⟨A0, cap0, rfl, hl0, hm0, hc0⟩ := r0
  rw [List.length_map] at rr0 hl0 ⊢
  clear hc0
  unfold maxLen at hm0
  rcases small_case L0.length with hb | hb0
  · go_enter Try.func6, Try.ntmps6
    go_wp2_with fail
    go_ret
    exact ⟨rfl, Below.refl _ _⟩
  · go_enter Try.func6, Try.ntmps6
    (go_wp2_with fail; (with_reducible refine (DrawForkCheck_any _ L0 _ rr0 b0).mono ?_))
    rintro _ w1 ⟨p, la, da, sa, lb, db, sb, rfl, bb⟩
    unfold fork7
    have x1 := Box.new w1 26 #[.int .i64 p, .int .i64 la, .int .i64 da, .int .i64 sa, .int .i64 lb, .int .i64 db, .int .i64 sb]
    have bx := bnew w1 (.cells #[.int .i64 p, .int .i64 la, .int .i64 da, .int .i64 sa, .int .i64 lb, .int .i64 db, .int .i64 sb] 26)
    obtain ⟨ok, hok⟩ : ∃ ok, fkB p la da sa lb db sb = ok := ⟨_, rfl⟩
    have HOK := hid' hok
    clear hok
    (go_wp2_with fail; (with_reducible refine (iForkCheck_b p la da sa lb db sb ok _ HOK.out).mono ?_))
    rintro _ w2 ⟨rfl, b2⟩
    have x2 := x1.next b2
    have bb2 := bstep (bstep bb bx) b2
    obtain ⟨c0, c1, c2, c3, c4, c5, c6⟩ := x2.c7
    (go_wp2_with fail; (with_reducible refine (sForkCheck_b p la da sa lb db sb ok _ HOK.out).mono ?_))
    rintro _ w3 ⟨rfl, b3⟩
    have x3 := x2.next b3
    have bb3 := bstep bb2 b3
    have bo1 : (ok != ok) = false := by simp
    have bo2 : (ok == ok) = true := by simp
    clear c0 c1 c2 c3 c4 c5 c6 x1 x2 b2 b3 bx bb2 bb
    obtain ⟨c0, c1, c2, c3, c4, c5, c6⟩ := x3.c7
    have hnam := named_one ⟨p, la, da, sa, lb, db, sb⟩
    have hok2 : okF ⟨p, la, da, sa, lb, db, sb⟩ = ok := HOK.out
    rw [hok2] at hnam
    have bb4 := balloc bb3 (.cells #[.int .i64 p, .int .i64 la, .int .i64 da, .int .i64 sa, .int .i64 lb, .int .i64 db, .int .i64 sb] 26)
    have x4 := x3.alloc (.cells #[.int .i64 p, .int .i64 la, .int .i64 da, .int .i64 sa, .int .i64 lb, .int .i64 db, .int .i64 sb] 26)
    have HN := hid' hnam
    clear hnam hok2 bb3
    (go_wp2_with fail; (with_reducible refine (iForkNamed_any _ [⟨p, la, da, sa, lb, db, sb⟩] _ _ (rf_one w3 p la da sa lb db sb _) (Nat.le_refl _) (by simp)).mono ?_))
    rintro _ w5 ⟨v5, rfl, r5, b5⟩
    rw [HN.out] at r5
    have x5 := x4.next b5
    have bb5 := bstep bb4 b5
    have s5 := b5.size
    clear c0 c1 c2 c3 c4 c5 c6 x3 x4 b5 bb4
    have x6 := x5.alloc (.cells #[] 26)
    have r6 := r5.next (bnew w5 (.cells #[] 26)) (Nat.le_refl _)
    (go_wp2_with fail; (with_reducible refine (iForkNamed_any _ [] _ _ (rf_nil _ _ _) (Nat.le_refl _) (by simp)).mono ?_))
    rintro _ w7 ⟨v7, rfl, r7, b7⟩
    rw [named_nil] at r7
    have x7 := x6.next b7
    have r8 := r6.next b7 (by simp)
    have bb7 := bstep (balloc bb5 (.cells #[] 26)) b7
    have s7 := b7.size
    obtain ⟨A7', c7', hv7, _, _⟩ := row_shape r7
    have hv7' : v7 = .slice A7' 0 c7' := hv7
    subst hv7'
    clear x5 x6 r5 r6 b7 bb5 hv7
    obtain ⟨c0, c1, c2, c3, c4, c5, c6⟩ := x7.c7
    cases ok
    · rw [if_neg (by decide)] at r8
      obtain ⟨A8, c8, hv8, _, _⟩ := row_shape r8
      have hv8' : v5 = .slice A8 0 c8 := hv8
      subst hv8'
      clear hv8 r8
      go_wp2_with fail
      go_ret
      exact ⟨rfl, bb7⟩
    · rw [if_pos rfl] at r8
      have rl := rv_new w7 #[.int .i64 p] 3 ([p].map (Value.int .i64)) 1 rfl (fun i x hi => by
        match i, hi with
        | 0, hi => simpa using hi) (by show 1 ≤ maxLen; decide)
      have s7' : w5.heap.size ≤ w7.heap.size := by simp at s7; omega
      have s8' : w5.heap.size ≤ (w7.alloc (.cells #[.int .i64 p] 3)).heap.size := by simp; omega
      have r9 := r8.next (bnew w7 (.cells #[.int .i64 p] 3)) s7'
      (go_wp2_with fail; (with_reducible refine (sameInts_any _ _ [p] [p] _ _ true (RV.mono r9.rv s8') rl (Nat.le_refl _) (by simp) (eqI_self _)).mono ?_))
      rintro _ w10 ⟨rfl, b10⟩
      go_wp2_with fail
      go_ret
      exact ⟨rfl, bstep (balloc bb7 _) b10⟩
end Go.Proofs.Ytcocknfdafmfnaa
