/- The walk of the law on new feeds. -/
import Derived.Test.YtjmgkcmmhkpmhaaBitsOf
import Derived.Handy
namespace Go.Proofs.Ytjmgkcmmhkpmhaa
set_option linter.unusedVariables false
open Go.RowKit
def feedV (p : Int) (A B : Option Addr) : Value := .agg #[.int .i64 p, .int .i64 0, .int .i64 0, .int .i64 0, .slice A 0 0, .slice B 0 0]
theorem Box.c6 {w : World} {g : Nat} {t : TypeId} {a b c d e f : Value} (h : Box w g t #[a, b, c, d, e, f]) :
    w.cell? ⟨g, 0, none⟩ = some a ∧ w.cell? ⟨g, 1, none⟩ = some b ∧ w.cell? ⟨g, 2, none⟩ = some c ∧ w.cell? ⟨g, 3, none⟩ = some d ∧ w.cell? ⟨g, 4, none⟩ = some e ∧ w.cell? ⟨g, 5, none⟩ = some f :=
  ⟨h.cell 0, h.cell 1, h.cell 2, h.cell 3, h.cell 4, h.cell 5⟩
theorem markStringS_nil (A : Option Addr) (k : Int) (w : World) : Calls Try.prog 57 #[.slice A 0 0, .int .i64 k] w fun e w' => e = .returned (.int .i64 k) ∧ w = w' := by
  go_enter Try.func57, Try.ntmps57
  go_wp2_with fail
  go_loop [1, 5] (fun q i => q = .int .i64 k ∧ i = .int .i64 0) (fun _ _ => 0)
  case atStart => exact ⟨rfl, rfl⟩
  case round =>
    obtain ⟨rfl, rfl⟩ := hrel
    go_wp2_with fail
    go_ret
    exact ⟨rfl, rfl⟩
theorem heldStringS_nil (A : Option Addr) (k : Int) (w : World) : Calls Try.prog 58 #[.slice A 0 0, .int .i64 k] w fun e w' => e = .returned (.int .i64 k) ∧ w = w' := by
  go_enter Try.func58, Try.ntmps58
  go_wp2_with fail
  go_loop [1, 5] (fun q i => q = .int .i64 k ∧ i = .int .i64 0) (fun _ _ => 0)
  case atStart => exact ⟨rfl, rfl⟩
  case round =>
    obtain ⟨rfl, rfl⟩ := hrel
    go_wp2_with fail
    go_ret
    exact ⟨rfl, rfl⟩
theorem markBoolS_nil (A : Option Addr) (k : Int) (w : World) : Calls Try.prog 25 #[.slice A 0 0, .int .i64 k] w fun e w' => e = .returned (.int .i64 k) ∧ w = w' := by
  go_enter Try.func25, Try.ntmps25
  go_wp2_with fail
  go_loop [1, 5] (fun q i => q = .int .i64 k ∧ i = .int .i64 0) (fun _ _ => 0)
  case atStart => exact ⟨rfl, rfl⟩
  case round =>
    obtain ⟨rfl, rfl⟩ := hrel
    go_wp2_with fail
    go_ret
    exact ⟨rfl, rfl⟩
theorem heldBoolS_nil (A : Option Addr) (k : Int) (w : World) : Calls Try.prog 37 #[.slice A 0 0, .int .i64 k] w fun e w' => e = .returned (.int .i64 k) ∧ w = w' := by
  go_enter Try.func37, Try.ntmps37
  go_wp2_with fail
  go_loop [1, 5] (fun q i => q = .int .i64 k ∧ i = .int .i64 0) (fun _ _ => 0)
  case atStart => exact ⟨rfl, rfl⟩
  case round =>
    obtain ⟨rfl, rfl⟩ := hrel
    go_wp2_with fail
    go_ret
    exact ⟨rfl, rfl⟩
theorem eqStringS_nil (A B : Option Addr) (w : World) : Calls Try.prog 56 #[.slice A 0 0, .slice B 0 0] w fun e w' => e = .returned (.bool true) ∧ w = w' := by
  go_enter Try.func56, Try.ntmps56
  go_wp2_with fail
  go_loop [5] (fun i => i = .int .i64 0) (fun _ => 0)
  case atStart => exact rfl
  case round =>
    subst hrel
    go_wp2_with fail
    go_ret
    exact ⟨rfl, rfl⟩
theorem eqBoolS_nil (A B : Option Addr) (w : World) : Calls Try.prog 20 #[.slice A 0 0, .slice B 0 0] w fun e w' => e = .returned (.bool true) ∧ Below w.heap.size w w' :=
  eqBoolS_any (.slice A 0 0) (.slice B 0 0) [] [] w.heap.size w true (RV.nil_ _ _ _ _ (by decide)) (RV.nil_ _ _ _ _ (by decide)) (Nat.le_refl _) (by simp) (by decide)
theorem eqHead_0 (w : World) : Calls Try.prog 55 #[.agg #[.int .i64 0, .int .i64 0, .int .i64 0], .agg #[.int .i64 0, .int .i64 0, .int .i64 0]] w fun e w' => e = .returned (.bool true) ∧ Below w.heap.size w w' := by
  go_enter Try.func55, Try.ntmps55
  go_wp2
  go_ret
  exact ⟨rfl, balloc (bnew w _) _⟩
theorem eqFeed_same (p : Int) (A B C D : Option Addr) (w : World) : Calls Try.prog 42 #[feedV p A B, feedV p C D] w fun e w' => e = .returned (.bool true) ∧ Below w.heap.size w w' := by
  unfold feedV
  have e1 : (p != p) = false := by simp
  have x1 := (Box.new w 49 #[.int .i64 p, .int .i64 0, .int .i64 0, .int .i64 0, .slice A 0 0, .slice B 0 0]).alloc (.cells #[.int .i64 p, .int .i64 0, .int .i64 0, .int .i64 0, .slice C 0 0, .slice D 0 0] 49)
  have x2 := Box.new (w.alloc (.cells #[.int .i64 p, .int .i64 0, .int .i64 0, .int .i64 0, .slice A 0 0, .slice B 0 0] 49)) 49 #[.int .i64 p, .int .i64 0, .int .i64 0, .int .i64 0, .slice C 0 0, .slice D 0 0]
  have bb := balloc (bnew w (.cells #[.int .i64 p, .int .i64 0, .int .i64 0, .int .i64 0, .slice A 0 0, .slice B 0 0] 49)) (.cells #[.int .i64 p, .int .i64 0, .int .i64 0, .int .i64 0, .slice C 0 0, .slice D 0 0] 49)
  have hsz : (w.alloc (.cells #[.int .i64 p, .int .i64 0, .int .i64 0, .int .i64 0, .slice A 0 0, .slice B 0 0] 49)).heap.size = w.heap.size + 1 := by simp
  rw [hsz] at x2
  clear hsz
  go_enter Try.func42, Try.ntmps42
  (go_wp2_with fail; (with_reducible refine (eqHead_0 _).mono ?_))
  rintro _ w3 ⟨rfl, b3⟩
  have y1 := x1.next b3
  have y2 := x2.next b3
  obtain ⟨c0, c1, c2, c3, c4, c5⟩ := y1.c6
  obtain ⟨d0, d1, d2, d3, d4, d5⟩ := y2.c6
  (go_wp2_with fail; (with_reducible refine (eqStringS_nil A C _).mono ?_); rintro _ _ ⟨rfl, rfl⟩)
  (go_wp2_with fail; (with_reducible refine (eqBoolS_nil B D _).mono ?_))
  rintro _ w4 ⟨rfl, b4⟩
  go_wp2_with fail
  go_ret
  exact ⟨rfl, bstep (bstep bb b3) b4⟩
theorem markFeed_nil (p k : Int) (A B : Option Addr) (w : World) : Calls Try.prog 43 #[feedV p A B, .int .i64 k] w fun e w' => e = .returned (.int .i64 k) ∧ Below w.heap.size w w' := by
  unfold feedV
  go_enter Try.func43, Try.ntmps43
  (go_wp2_with fail; (with_reducible refine (markStringS_nil A k _).mono ?_); rintro _ _ ⟨rfl, rfl⟩)
  (go_wp2_with fail; (with_reducible refine (markBoolS_nil B k _).mono ?_); rintro _ _ ⟨rfl, rfl⟩)
  go_wp2_with fail
  go_ret
  exact ⟨rfl, bnew w _⟩
theorem heldFeed_nil (p k : Int) (A B : Option Addr) (w : World) (hk : 0 ≤ k) : Calls Try.prog 44 #[feedV p A B, .int .i64 k] w fun e w' => e = .returned (.int .i64 k) ∧ Below w.heap.size w w' := by
  unfold feedV
  have hkd : decide (k < 0) = false := decide_eq_false (by omega)
  go_enter Try.func44, Try.ntmps44
  (go_wp2_with fail; (with_reducible refine (heldStringS_nil A k _).mono ?_); rintro _ _ ⟨rfl, rfl⟩)
  (go_wp2_with fail; (with_reducible refine (heldBoolS_nil B k _).mono ?_); rintro _ _ ⟨rfl, rfl⟩)
  go_wp2_with fail
  go_ret
  exact ⟨rfl, bnew w _⟩
def newP (p : Int) : Int := if keyB p = true then p else 0
theorem iFeedNew_any (p : Int) (w : World) : Calls Try.prog 41 #[.int .i64 p] w fun e w' => e = .returned (.tuple #[feedV (newP p) none none, .bool (keyB p)]) ∧ Below w.heap.size w w' := by
  unfold feedV
  cases hk : keyB p
  · have HP : Hid (newP p = 0) := if_neg (by rw [hk]; decide)
    rw [HP.out]
    go_enter Try.func41, Try.ntmps41
    (go_wp2_with fail; (with_reducible refine (isKey_b p false _ hk).mono ?_); rintro _ _ ⟨rfl, rfl⟩)
    go_wp2_with fail
    refine bodyPost_ret (v := .tuple #[.agg #[.int .i64 0, .int .i64 0, .int .i64 0, .int .i64 0, .slice none 0 0, .slice none 0 0], .bool false]) (by simp [results, Try.results41, go_sem]) rfl ⟨rfl, ?_⟩
    go_grown
  · have HP : Hid (newP p = p) := if_pos hk
    rw [HP.out]
    go_enter Try.func41, Try.ntmps41
    (go_wp2_with fail; (with_reducible refine (isKey_b p true _ hk).mono ?_); rintro _ _ ⟨rfl, rfl⟩)
    go_wp2_with fail
    refine bodyPost_ret (v := .tuple #[.agg #[.int .i64 p, .int .i64 0, .int .i64 0, .int .i64 0, .slice none 0 0, .slice none 0 0], .bool true]) (by simp [results, Try.results41, go_sem]) rfl ⟨rfl, ?_⟩
    go_grown
theorem l11Empty_any (w : World) : Calls Try.prog 53 #[] w fun e w' => e = .returned (.agg #[.int .i64 0, .int .i64 0, .int .i64 0]) ∧ w.alloc (.cells #[.int .i64 0, .int .i64 0, .int .i64 0] 46) = w' := by
  go_enter Try.func53, Try.ntmps53
  go_wp2_with fail
  refine bodyPost_ret (v := .agg #[.int .i64 0, .int .i64 0, .int .i64 0]) (by simp [results, Try.results53, go_sem]) rfl ⟨rfl, ?_⟩
  rfl
theorem sFeedNew_any (p : Int) (w : World) : Calls Try.prog 40 #[.int .i64 p] w fun e w' => ∃ A B, e = .returned (.tuple #[feedV (newP p) A B, .bool (keyB p)]) ∧ Below w.heap.size w w' := by
  unfold feedV
  cases hk : keyB p
  · have HP : Hid (newP p = 0) := if_neg (by rw [hk]; decide)
    rw [HP.out]
    go_enter Try.func40, Try.ntmps40
    (go_wp2_with fail; (with_reducible refine (l3Key_b p false _ hk).mono ?_); rintro _ _ ⟨rfl, rfl⟩)
    go_wp2_with fail
    refine bodyPost_ret (v := .tuple #[.agg #[.int .i64 0, .int .i64 0, .int .i64 0, .int .i64 0, .slice none 0 0, .slice none 0 0], .bool false]) (by simp [results, Try.results40, go_sem]) rfl ⟨none, none, rfl, ?_⟩
    go_grown
  · have HP : Hid (newP p = p) := if_pos hk
    rw [HP.out]
    go_enter Try.func40, Try.ntmps40
    (go_wp2_with fail; (with_reducible refine (l3Key_b p true _ hk).mono ?_); rintro _ _ ⟨rfl, rfl⟩)
    (go_wp2_with fail; (with_reducible refine (l11Empty_any _).mono ?_); rintro _ _ ⟨rfl, rfl⟩)
    go_wp2_with fail
    refine bodyPost_ret (v := .tuple #[.agg #[.int .i64 p, .int .i64 0, .int .i64 0, .int .i64 0, .slice (some ⟨w.heap.size + 1 + 1, 0, none⟩) 0 0, .slice (some ⟨w.heap.size + 1 + 1 + 1, 0, none⟩) 0 0], .bool true]) (by simp [results, Try.results40, go_sem]) rfl ⟨_, _, rfl, ?_⟩
    go_grown
set_option maxHeartbeats 4000000 in
set_option maxRecDepth 100000 in
theorem walk_FnExactFeedNew (a0 : Int) (w : World) (w0 : (Lit.int .i64 a0).wf = true) : Calls Try.prog 16 #[.int .i64 a0] w fun e w' => e = .returned (.bool true) ∧ Below w.heap.size w w' := by
  have ek : (keyB a0 != keyB a0) = false := by simp
  obtain ⟨p, hp⟩ : ∃ p, newP a0 = p := ⟨_, rfl⟩
  obtain ⟨k, hk⟩ : ∃ k, keyB a0 = k := ⟨_, rfl⟩
  rw [hk] at ek
  have SI := hid' (fun (W : World) => iFeedNew_any a0 W)
  have SS := hid' (fun (W : World) => sFeedNew_any a0 W)
  rw [hp, hk] at SI SS
  clear hp hk
  have EQ := hid' (fun (A B : Option Addr) (W : World) => eqFeed_same p none none A B W)
  have MK := hid' (fun (W : World) => markFeed_nil p 1 none none W)
  have HD := hid' (fun (W : World) => heldFeed_nil p 1 none none W (by omega))
  unfold feedV at EQ MK HD
  go_enter Try.func16, Try.ntmps16
  (go_wp2_with fail; (with_reducible refine (SS.out _).mono ?_))
  rintro _ w1 ⟨A, B, rfl, b1⟩
  unfold feedV
  have x1 := Box.new w1 49 #[.int .i64 p, .int .i64 0, .int .i64 0, .int .i64 0, .slice A 0 0, .slice B 0 0]
  have bb1 := balloc b1 (.cells #[.int .i64 p, .int .i64 0, .int .i64 0, .int .i64 0, .slice A 0 0, .slice B 0 0] 49)
  obtain ⟨q, hq⟩ : ∃ q, q = w1.heap.size := ⟨_, rfl⟩
  rw [← hq] at x1
  clear b1
  (go_wp2_with fail; (with_reducible refine (SI.out _).mono ?_))
  rintro _ w2 ⟨rfl, b2⟩
  unfold feedV
  rw [← hq] at ⊢
  clear hq
  have x2 := x1.next b2
  have hq2 := x2.lt
  have y2 := Box.new w2 49 #[.int .i64 p, .int .i64 0, .int .i64 0, .int .i64 0, .slice none 0 0, .slice none 0 0]
  have x3 := x2.alloc (.cells #[.int .i64 p, .int .i64 0, .int .i64 0, .int .i64 0, .slice none 0 0, .slice none 0 0] 49)
  have bb2 := balloc (bstep bb1 b2) (.cells #[.int .i64 p, .int .i64 0, .int .i64 0, .int .i64 0, .slice none 0 0, .slice none 0 0] 49)
  obtain ⟨c0, c1, c2, c3, c4, c5⟩ := x3.c6
  obtain ⟨d0, d1, d2, d3, d4, d5⟩ := x2.c6
  clear x1 b2 bb1
  go_wp2_with fail
  (with_reducible refine (EQ.out A B _).mono ?_)
  rintro _ w3 ⟨rfl, b3⟩
  have x4 := x3.next b3
  have y4 := y2.next b3
  have bb3 := bstep bb2 b3
  obtain ⟨r, hr⟩ : ∃ r, r = w2.heap.size := ⟨_, rfl⟩
  rw [← hr] at y4 ⊢
  clear c0 c1 c2 c3 c4 c5 d0 d1 d2 d3 d4 d5 x3 y2 b3 hr bb2 x2 hq2
  obtain ⟨c0, c1, c2, c3, c4, c5⟩ := y4.c6
  go_wp2_with fail
  (with_reducible refine (MK.out _).mono ?_)
  rintro _ w5 ⟨rfl, b5⟩
  have x5 := x4.next b5
  have y5 := y4.next b5
  clear c0 c1 c2 c3 c4 c5
  obtain ⟨c0, c1, c2, c3, c4, c5⟩ := y5.c6
  go_wp2_with fail
  (with_reducible refine (HD.out _).mono ?_)
  rintro _ w6 ⟨rfl, b6⟩
  have x6 := x5.next b6
  have y6 := y5.next b6
  clear c0 c1 c2 c3 c4 c5
  (go_wp2_with fail; (with_reducible refine (SI.out _).mono ?_))
  rintro _ w7 ⟨rfl, b7⟩
  unfold feedV
  have bb7 := balloc (bstep (bstep (bstep bb3 b5) b6) b7) (.cells #[.int .i64 p, .int .i64 0, .int .i64 0, .int .i64 0, .slice none 0 0, .slice none 0 0] 49)
  have x7 := (x6.next b7).alloc (.cells #[.int .i64 p, .int .i64 0, .int .i64 0, .int .i64 0, .slice none 0 0, .slice none 0 0] 49)
  have y7 := (y6.next b7).alloc (.cells #[.int .i64 p, .int .i64 0, .int .i64 0, .int .i64 0, .slice none 0 0, .slice none 0 0] 49)
  have x7' := x6.next b7
  have hq7 := x7'.lt
  obtain ⟨c0, c1, c2, c3, c4, c5⟩ := x7.c6
  obtain ⟨d0, d1, d2, d3, d4, d5⟩ := x7'.c6
  go_wp2_with fail
  (with_reducible refine (EQ.out A B _).mono ?_)
  rintro _ w8 ⟨rfl, b8⟩
  have y8 := y7.next b8
  clear c0 c1 c2 c3 c4 c5 d0 d1 d2 d3 d4 d5
  obtain ⟨c0, c1, c2, c3, c4, c5⟩ := y8.c6
  go_wp2_with fail
  (with_reducible refine (HD.out _).mono ?_)
  rintro _ w9 ⟨rfl, b9⟩
  go_wp2_with fail
  go_ret
  exact ⟨rfl, bstep (bstep bb7 b8) b9⟩
end Go.Proofs.Ytjmgkcmmhkpmhaa
