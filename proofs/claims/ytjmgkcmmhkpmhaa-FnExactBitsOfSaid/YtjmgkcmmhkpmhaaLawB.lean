/- The walks of the laws on bits that hold the program against the reference. -/
import Derived.Test.YtjmgkcmmhkpmhaaBitsOf
namespace Go.Proofs.Ytjmgkcmmhkpmhaa
set_option linter.unusedVariables false
open Go.RowKit

theorem small1 (n : Nat) : 1048576 < n ∨ n ≤ 1048576 := by omega
theorem small2 (n m : Nat) : 1048576 < n ∨ (n ≤ 1048576 ∧ 1048576 < m) ∨ (n ≤ 1048576 ∧ m ≤ 1048576) := by omega
theorem wants_len (A B : List Bool) : (wants A B).length ≤ 33554432 := by
  unfold wants
  split
  · rw [List.length_map]; have := wantsN_len A B A.length; omega
  · simp
theorem runs_len (L : List Bool) : (runs L).length ≤ 33554432 := by
  unfold runs
  split
  · have h := rstate_bound L L.length
    rw [List.take_length] at h
    unfold runL
    split
    · rw [List.length_append, List.length_singleton]; omega
    · omega
  · simp
theorem bitsOf_len (R : List Int) : ((bitsOf R).getD []).length ≤ 33554432 := by
  unfold bitsOf
  split
  · rename_i h; show (expand R R.length).length ≤ _; omega
  · show ([] : List Bool).length ≤ _; simp
set_option maxHeartbeats 2000000 in
set_option maxRecDepth 100000 in
theorem walk_FnExactBitsCount (v0 : Value) (L0 : List Bool) (w : World) (r0 : RV w w.heap.size v0 (L0.map (Value.bool))) :
    Calls Try.prog 3 #[v0] w fun e w' => e = .returned (.bool true) ∧ Below w.heap.size w w' := by
  have rr0 := r0
  obtain ⟨A0, cap0, rfl, hl0, hm0, hc0⟩ := r0
  rw [List.length_map] at rr0 hl0 ⊢
  clear hc0
  rcases small1 L0.length with hb | hs0
  · go_enter Try.func3, Try.ntmps3
    go_wp2_with fail
    go_ret
    exact ⟨rfl, Below.refl _ _⟩
  · go_enter Try.func3, Try.ntmps3
    (go_wp2_with fail; (with_reducible refine (toBoolS_any _ L0 _ _ rr0 (Nat.le_refl _) hs0).mono ?_))
    rintro _ w1 ⟨vp, rfl, rp, b1⟩
    have s1 := b1.size
    replace rr0 := rr0.below b1 (by omega)
    have bb := b1
    (go_wp2_with fail; (with_reducible refine (sBitsCount_any _ L0 _ _ (RV.mono (B' := w1.heap.size) rp.rv (by omega)) hs0).mono ?_); rintro _ _ ⟨rfl, rfl⟩)
    (go_wp2_with fail; (with_reducible refine (toBoolS_any _ L0 _ _ (RV.mono (B' := w1.heap.size) rr0 (by omega)) (Nat.le_refl _) hs0).mono ?_))
    rintro _ w2 ⟨vx, rfl, rx, b2⟩
    have s2 := b2.size
    replace rr0 := rr0.below b2 (by omega)
    replace rp := rp.next b2 (by omega)
    replace bb := bstep bb b2
    (go_wp2_with fail; (with_reducible refine (iBitsCount_any _ L0 _ _ (RV.mono (B' := w2.heap.size) rx.rv (by omega)) hs0).mono ?_); rintro _ _ ⟨rfl, rfl⟩)
    (go_wp2_with fail; (with_reducible refine (toBoolS_any _ L0 _ _ (RV.mono (B' := w2.heap.size) rr0 (by omega)) (Nat.le_refl _) hs0).mono ?_))
    rintro _ w3 ⟨vy, rfl, ry, b3⟩
    have s3 := b3.size
    replace rr0 := rr0.below b3 (by omega)
    replace rp := rp.next b3 (by omega)
    replace rx := rx.next b3 (by omega)
    replace bb := bstep bb b3
    (go_wp2_with fail; (with_reducible refine (eqBoolS_any _ _ L0 L0 _ _ true (RV.mono (B' := w3.heap.size) rx.rv (by omega)) (RV.mono (B' := w3.heap.size) ry.rv (by omega)) (Nat.le_refl _) (by omega) (eqB_self _)).mono ?_))
    rintro _ w4 ⟨rfl, b4⟩
    have s4 := b4.size
    replace rr0 := rr0.below b4 (by omega)
    replace rp := rp.next b4 (by omega)
    replace rx := rx.next b4 (by omega)
    replace ry := ry.next b4 (by omega)
    replace bb := bstep bb b4
    go_wp2_with fail
    go_ret
    exact ⟨rfl, bb⟩
set_option maxHeartbeats 8000000 in
set_option maxRecDepth 100000 in
theorem walk_FnExactBitsWants (v0 : Value) (L0 : List Bool) (v1 : Value) (L1 : List Bool) (w : World) (r0 : RV w w.heap.size v0 (L0.map (Value.bool))) (r1 : RV w w.heap.size v1 (L1.map (Value.bool))) :
    Calls Try.prog 7 #[v0, v1] w fun e w' => e = .returned (.bool true) ∧ Below w.heap.size w w' := by
  have rr0 := r0
  obtain ⟨A0, cap0, rfl, hl0, hm0, hc0⟩ := r0
  rw [List.length_map] at rr0 hl0 ⊢
  clear hc0
  have rr1 := r1
  obtain ⟨A1, cap1, rfl, hl1, hm1, hc1⟩ := r1
  rw [List.length_map] at rr1 hl1 ⊢
  clear hc1
  rcases small2 L0.length L1.length with hb | hb | ⟨hs0, hs1⟩
  · go_enter Try.func7, Try.ntmps7
    go_wp2_with fail
    go_ret
    exact ⟨rfl, Below.refl _ _⟩
  · go_enter Try.func7, Try.ntmps7
    go_wp2_with fail
    go_ret
    exact ⟨rfl, Below.refl _ _⟩
  · go_enter Try.func7, Try.ntmps7
    have hwl : (wants L0 L1).length ≤ 33554432 := wants_len L0 L1
    (go_wp2_with fail; (with_reducible refine (toBoolS_any _ L0 _ _ rr0 (Nat.le_refl _) hs0).mono ?_))
    rintro _ w1 ⟨vp0, rfl, rp0, b1⟩
    have s1 := b1.size
    replace rr0 := rr0.below b1 (by omega)
    replace rr1 := rr1.below b1 (by omega)
    have bb := b1
    (go_wp2_with fail; (with_reducible refine (toBoolS_any _ L1 _ _ (RV.mono (B' := w1.heap.size) rr1 (by omega)) (Nat.le_refl _) hs1).mono ?_))
    rintro _ w2 ⟨vp1, rfl, rp1, b2⟩
    have s2 := b2.size
    replace rr0 := rr0.below b2 (by omega)
    replace rr1 := rr1.below b2 (by omega)
    replace rp0 := rp0.next b2 (by omega)
    replace bb := bstep bb b2
    (go_wp2_with fail; (with_reducible refine (sBitsWants_any _ _ L0 L1 _ (RV.mono (B' := w2.heap.size) rp0.rv (by omega)) (RV.mono (B' := w2.heap.size) rp1.rv (by omega)) hs0 hs1).mono ?_))
    rintro _ w3 ⟨vw0, rfl, rw0, b3⟩
    have s3 := b3.size
    replace rr0 := rr0.below b3 (by omega)
    replace rr1 := rr1.below b3 (by omega)
    replace rp0 := rp0.next b3 (by omega)
    replace rp1 := rp1.next b3 (by omega)
    replace bb := bstep bb b3
    (go_wp2_with fail; (with_reducible refine (toBoolS_any _ L0 _ _ (RV.mono (B' := w3.heap.size) rr0 (by omega)) (Nat.le_refl _) hs0).mono ?_))
    rintro _ w4 ⟨vx0, rfl, rx0, b4⟩
    have s4 := b4.size
    replace rr0 := rr0.below b4 (by omega)
    replace rr1 := rr1.below b4 (by omega)
    replace rp0 := rp0.next b4 (by omega)
    replace rp1 := rp1.next b4 (by omega)
    replace rw0 := rw0.next b4 (by omega)
    replace bb := bstep bb b4
    (go_wp2_with fail; (with_reducible refine (toBoolS_any _ L1 _ _ (RV.mono (B' := w4.heap.size) rr1 (by omega)) (Nat.le_refl _) hs1).mono ?_))
    rintro _ w5 ⟨vx1, rfl, rx1, b5⟩
    have s5 := b5.size
    replace rr0 := rr0.below b5 (by omega)
    replace rr1 := rr1.below b5 (by omega)
    replace rp0 := rp0.next b5 (by omega)
    replace rp1 := rp1.next b5 (by omega)
    replace rw0 := rw0.next b5 (by omega)
    replace rx0 := rx0.next b5 (by omega)
    replace bb := bstep bb b5
    (go_wp2_with fail; (with_reducible refine (iBitsWants_any _ _ L0 L1 _ (RV.mono (B' := w5.heap.size) rx0.rv (by omega)) (RV.mono (B' := w5.heap.size) rx1.rv (by omega)) hs0 hs1).mono ?_))
    rintro _ w6 ⟨vg0, rfl, rg0, b6⟩
    have s6 := b6.size
    replace rr0 := rr0.below b6 (by omega)
    replace rr1 := rr1.below b6 (by omega)
    replace rp0 := rp0.next b6 (by omega)
    replace rp1 := rp1.next b6 (by omega)
    replace rw0 := rw0.next b6 (by omega)
    replace rx0 := rx0.next b6 (by omega)
    replace rx1 := rx1.next b6 (by omega)
    replace bb := bstep bb b6
    (go_wp2_with fail; (with_reducible refine (eqIntS_any _ _ (wants L0 L1) (wants L0 L1) _ _ true (RV.mono (B' := w6.heap.size) rg0.rv (by omega)) (RV.mono (B' := w6.heap.size) rw0.rv (by omega)) (Nat.le_refl _) (hwl) (eqI_self _)).mono ?_))
    rintro _ w7 ⟨rfl, b7⟩
    have s7 := b7.size
    replace rr0 := rr0.below b7 (by omega)
    replace rr1 := rr1.below b7 (by omega)
    replace rp0 := rp0.next b7 (by omega)
    replace rp1 := rp1.next b7 (by omega)
    replace rw0 := rw0.next b7 (by omega)
    replace rx0 := rx0.next b7 (by omega)
    replace rx1 := rx1.next b7 (by omega)
    replace rg0 := rg0.next b7 (by omega)
    replace bb := bstep bb b7
    (go_wp2_with fail; (with_reducible refine (toBoolS_any _ L0 _ _ (RV.mono (B' := w7.heap.size) rr0 (by omega)) (Nat.le_refl _) hs0).mono ?_))
    rintro _ w8 ⟨vy0, rfl, ry0, b8⟩
    have s8 := b8.size
    replace rr0 := rr0.below b8 (by omega)
    replace rr1 := rr1.below b8 (by omega)
    replace rp0 := rp0.next b8 (by omega)
    replace rp1 := rp1.next b8 (by omega)
    replace rw0 := rw0.next b8 (by omega)
    replace rx0 := rx0.next b8 (by omega)
    replace rx1 := rx1.next b8 (by omega)
    replace rg0 := rg0.next b8 (by omega)
    replace bb := bstep bb b8
    (go_wp2_with fail; (with_reducible refine (eqBoolS_any _ _ L0 L0 _ _ true (RV.mono (B' := w8.heap.size) rx0.rv (by omega)) (RV.mono (B' := w8.heap.size) ry0.rv (by omega)) (Nat.le_refl _) (by omega) (eqB_self _)).mono ?_))
    rintro _ w9 ⟨rfl, b9⟩
    have s9 := b9.size
    replace rr0 := rr0.below b9 (by omega)
    replace rr1 := rr1.below b9 (by omega)
    replace rp0 := rp0.next b9 (by omega)
    replace rp1 := rp1.next b9 (by omega)
    replace rw0 := rw0.next b9 (by omega)
    replace rx0 := rx0.next b9 (by omega)
    replace rx1 := rx1.next b9 (by omega)
    replace rg0 := rg0.next b9 (by omega)
    replace ry0 := ry0.next b9 (by omega)
    replace bb := bstep bb b9
    (go_wp2_with fail; (with_reducible refine (toBoolS_any _ L1 _ _ (RV.mono (B' := w9.heap.size) rr1 (by omega)) (Nat.le_refl _) hs1).mono ?_))
    rintro _ w10 ⟨vy1, rfl, ry1, b10⟩
    have s10 := b10.size
    replace rr0 := rr0.below b10 (by omega)
    replace rr1 := rr1.below b10 (by omega)
    replace rp0 := rp0.next b10 (by omega)
    replace rp1 := rp1.next b10 (by omega)
    replace rw0 := rw0.next b10 (by omega)
    replace rx0 := rx0.next b10 (by omega)
    replace rx1 := rx1.next b10 (by omega)
    replace rg0 := rg0.next b10 (by omega)
    replace ry0 := ry0.next b10 (by omega)
    replace bb := bstep bb b10
    (go_wp2_with fail; (with_reducible refine (eqBoolS_any _ _ L1 L1 _ _ true (RV.mono (B' := w10.heap.size) rx1.rv (by omega)) (RV.mono (B' := w10.heap.size) ry1.rv (by omega)) (Nat.le_refl _) (by omega) (eqB_self _)).mono ?_))
    rintro _ w11 ⟨rfl, b11⟩
    have s11 := b11.size
    replace rr0 := rr0.below b11 (by omega)
    replace rr1 := rr1.below b11 (by omega)
    replace rp0 := rp0.next b11 (by omega)
    replace rp1 := rp1.next b11 (by omega)
    replace rw0 := rw0.next b11 (by omega)
    replace rx0 := rx0.next b11 (by omega)
    replace rx1 := rx1.next b11 (by omega)
    replace rg0 := rg0.next b11 (by omega)
    replace ry0 := ry0.next b11 (by omega)
    replace ry1 := ry1.next b11 (by omega)
    replace bb := bstep bb b11
    have z12 := rx0
    (go_wp2_with fail; (with_reducible refine (markBoolS_any _ L0 _ _ _ _ rx0 (by omega) (by omega) (by omega)).mono ?_))
    rintro _ w12 ⟨rfl, nx0, g12⟩
    have s12 := g12.size
    have c12 := below_row z12 g12 (by omega)
    replace rr0 := rr0.below c12 (by omega)
    replace rr1 := rr1.below c12 (by omega)
    replace rp0 := rp0.grown g12 (fun k hk => by have p1 := (World.ownsRow.lt z12.1 k hk).1; have p2 := z12.2 k hk; omega)
    replace rp1 := rp1.grown g12 (fun k hk => by have p1 := (World.ownsRow.lt z12.1 k hk).1; have p2 := z12.2 k hk; omega)
    replace rw0 := rw0.grown g12 (fun k hk => by have p1 := (World.ownsRow.lt z12.1 k hk).1; have p2 := z12.2 k hk; omega)
    replace rx1 := rx1.grown g12 (fun k hk => by have p1 := (World.ownsRow.lt z12.1 k hk).1; have p2 := z12.2 k hk; omega)
    replace rg0 := rg0.grown g12 (fun k hk => by have p1 := (World.ownsRow.lt z12.1 k hk).1; have p2 := z12.2 k hk; omega)
    replace ry0 := ry0.grown g12 (fun k hk => by have p1 := (World.ownsRow.lt z12.1 k hk).1; have p2 := z12.2 k hk; omega)
    replace ry1 := ry1.grown g12 (fun k hk => by have p1 := (World.ownsRow.lt z12.1 k hk).1; have p2 := z12.2 k hk; omega)
    replace rx0 := nx0
    replace bb := bb.trans (c12.mono (by omega))
    clear z12 c12 g12
    have z13 := rx1
    (go_wp2_with fail; (with_reducible refine (markBoolS_any _ L1 _ _ _ _ rx1 (by omega) (by omega) (by omega)).mono ?_))
    rintro _ w13 ⟨rfl, nx1, g13⟩
    have s13 := g13.size
    have c13 := below_row z13 g13 (by omega)
    replace rr0 := rr0.below c13 (by omega)
    replace rr1 := rr1.below c13 (by omega)
    replace rp0 := rp0.grown g13 (fun k hk => by have p1 := (World.ownsRow.lt z13.1 k hk).1; have p2 := z13.2 k hk; omega)
    replace rp1 := rp1.grown g13 (fun k hk => by have p1 := (World.ownsRow.lt z13.1 k hk).1; have p2 := z13.2 k hk; omega)
    replace rw0 := rw0.grown g13 (fun k hk => by have p1 := (World.ownsRow.lt z13.1 k hk).1; have p2 := z13.2 k hk; omega)
    replace rg0 := rg0.grown g13 (fun k hk => by have p1 := (World.ownsRow.lt z13.1 k hk).1; have p2 := z13.2 k hk; omega)
    replace ry0 := ry0.grown g13 (fun k hk => by have p1 := (World.ownsRow.lt z13.1 k hk).1; have p2 := z13.2 k hk; omega)
    replace ry1 := ry1.grown g13 (fun k hk => by have p1 := (World.ownsRow.lt z13.1 k hk).1; have p2 := z13.2 k hk; omega)
    replace rx1 := nx1
    replace bb := bb.trans (c13.mono (by omega))
    clear z13 c13 g13
    (go_wp2_with fail; (with_reducible refine (eqIntS_any _ _ (wants L0 L1) (wants L0 L1) _ _ true (RV.mono (B' := w13.heap.size) rg0.rv (by omega)) (RV.mono (B' := w13.heap.size) rw0.rv (by omega)) (Nat.le_refl _) (hwl) (eqI_self _)).mono ?_))
    rintro _ w14 ⟨rfl, b14⟩
    have s14 := b14.size
    replace rr0 := rr0.below b14 (by omega)
    replace rr1 := rr1.below b14 (by omega)
    replace rw0 := rw0.next b14 (by omega)
    replace rg0 := rg0.next b14 (by omega)
    replace bb := bstep bb b14
    have z15 := rg0
    (go_wp2_with fail; (with_reducible refine (markIntS_any _ ((wants L0 L1)) _ _ 1 _ rg0 (by omega) (by omega) (hwl)).mono ?_))
    rintro _ w15 ⟨rfl, ng0, g15⟩
    have s15 := g15.size
    have c15 := below_row z15 g15 (by omega)
    replace rr0 := rr0.below c15 (by omega)
    replace rr1 := rr1.below c15 (by omega)
    replace rw0 := rw0.grown g15 (fun k hk => by have p1 := (World.ownsRow.lt z15.1 k hk).1; have p2 := z15.2 k hk; omega)
    replace rg0 := ng0
    replace bb := bb.trans (c15.mono (by omega))
    clear z15 c15 g15
    (go_wp2_with fail; (with_reducible refine (heldIntS_any _ _ _ 1 _ (RV.mono (B' := w15.heap.size) rg0.rv (by omega)) (by omega) (by omega) (hwl)).mono ?_); rintro _ _ ⟨rfl, rfl⟩)
    (go_wp2_with fail; (with_reducible refine (toBoolS_any _ L0 _ _ (RV.mono (B' := w15.heap.size) rr0 (by omega)) (Nat.le_refl _) hs0).mono ?_))
    rintro _ w16 ⟨vz0, rfl, rz0, b16⟩
    have s16 := b16.size
    replace rr0 := rr0.below b16 (by omega)
    replace rr1 := rr1.below b16 (by omega)
    replace rw0 := rw0.next b16 (by omega)
    replace rg0 := rg0.next b16 (by omega)
    replace bb := bstep bb b16
    (go_wp2_with fail; (with_reducible refine (toBoolS_any _ L1 _ _ (RV.mono (B' := w16.heap.size) rr1 (by omega)) (Nat.le_refl _) hs1).mono ?_))
    rintro _ w17 ⟨vz1, rfl, rz1, b17⟩
    have s17 := b17.size
    replace rr0 := rr0.below b17 (by omega)
    replace rr1 := rr1.below b17 (by omega)
    replace rw0 := rw0.next b17 (by omega)
    replace rg0 := rg0.next b17 (by omega)
    replace rz0 := rz0.next b17 (by omega)
    replace bb := bstep bb b17
    (go_wp2_with fail; (with_reducible refine (iBitsWants_any _ _ L0 L1 _ (RV.mono (B' := w17.heap.size) rz0.rv (by omega)) (RV.mono (B' := w17.heap.size) rz1.rv (by omega)) hs0 hs1).mono ?_))
    rintro _ w18 ⟨vh0, rfl, rh0, b18⟩
    have s18 := b18.size
    replace rr0 := rr0.below b18 (by omega)
    replace rr1 := rr1.below b18 (by omega)
    replace rw0 := rw0.next b18 (by omega)
    replace rg0 := rg0.next b18 (by omega)
    replace rz0 := rz0.next b18 (by omega)
    replace rz1 := rz1.next b18 (by omega)
    replace bb := bstep bb b18
    (go_wp2_with fail; (with_reducible refine (eqIntS_any _ _ (wants L0 L1) (wants L0 L1) _ _ true (RV.mono (B' := w18.heap.size) rh0.rv (by omega)) (RV.mono (B' := w18.heap.size) rw0.rv (by omega)) (Nat.le_refl _) (hwl) (eqI_self _)).mono ?_))
    rintro _ w19 ⟨rfl, b19⟩
    have s19 := b19.size
    replace rr0 := rr0.below b19 (by omega)
    replace rr1 := rr1.below b19 (by omega)
    replace rw0 := rw0.next b19 (by omega)
    replace rg0 := rg0.next b19 (by omega)
    replace rz0 := rz0.next b19 (by omega)
    replace rz1 := rz1.next b19 (by omega)
    replace rh0 := rh0.next b19 (by omega)
    replace bb := bstep bb b19
    (go_wp2_with fail; (with_reducible refine (heldIntS_any _ _ _ 1 _ (RV.mono (B' := w19.heap.size) rg0.rv (by omega)) (by omega) (by omega) (hwl)).mono ?_); rintro _ _ ⟨rfl, rfl⟩)
    go_wp2_with fail
    go_ret
    exact ⟨rfl, bb⟩
set_option maxHeartbeats 8000000 in
set_option maxRecDepth 100000 in
theorem walk_FnExactBitsRuns (v0 : Value) (L0 : List Bool) (w : World) (r0 : RV w w.heap.size v0 (L0.map (Value.bool))) :
    Calls Try.prog 12 #[v0] w fun e w' => e = .returned (.bool true) ∧ Below w.heap.size w w' := by
  have rr0 := r0
  obtain ⟨A0, cap0, rfl, hl0, hm0, hc0⟩ := r0
  rw [List.length_map] at rr0 hl0 ⊢
  clear hc0
  rcases small1 L0.length with hb | hs0
  · go_enter Try.func12, Try.ntmps12
    go_wp2_with fail
    go_ret
    exact ⟨rfl, Below.refl _ _⟩
  · go_enter Try.func12, Try.ntmps12
    have hwl : (runs L0).length ≤ 33554432 := runs_len L0
    (go_wp2_with fail; (with_reducible refine (toBoolS_any _ L0 _ _ rr0 (Nat.le_refl _) hs0).mono ?_))
    rintro _ w1 ⟨vp0, rfl, rp0, b1⟩
    have s1 := b1.size
    replace rr0 := rr0.below b1 (by omega)
    have bb := b1
    (go_wp2_with fail; (with_reducible refine (sBitsRuns_any _ L0 _ (RV.mono (B' := w1.heap.size) rp0.rv (by omega)) hs0).mono ?_))
    rintro _ w2 ⟨vw0, rfl, rw0, b2⟩
    have s2 := b2.size
    replace rr0 := rr0.below b2 (by omega)
    replace rp0 := rp0.next b2 (by omega)
    replace bb := bstep bb b2
    (go_wp2_with fail; (with_reducible refine (toBoolS_any _ L0 _ _ (RV.mono (B' := w2.heap.size) rr0 (by omega)) (Nat.le_refl _) hs0).mono ?_))
    rintro _ w3 ⟨vx0, rfl, rx0, b3⟩
    have s3 := b3.size
    replace rr0 := rr0.below b3 (by omega)
    replace rp0 := rp0.next b3 (by omega)
    replace rw0 := rw0.next b3 (by omega)
    replace bb := bstep bb b3
    (go_wp2_with fail; (with_reducible refine (iBitsRuns_any _ L0 _ (RV.mono (B' := w3.heap.size) rx0.rv (by omega)) hs0).mono ?_))
    rintro _ w4 ⟨vg0, rfl, rg0, b4⟩
    have s4 := b4.size
    replace rr0 := rr0.below b4 (by omega)
    replace rp0 := rp0.next b4 (by omega)
    replace rw0 := rw0.next b4 (by omega)
    replace rx0 := rx0.next b4 (by omega)
    replace bb := bstep bb b4
    (go_wp2_with fail; (with_reducible refine (eqIntS_any _ _ (runs L0) (runs L0) _ _ true (RV.mono (B' := w4.heap.size) rg0.rv (by omega)) (RV.mono (B' := w4.heap.size) rw0.rv (by omega)) (Nat.le_refl _) (hwl) (eqI_self _)).mono ?_))
    rintro _ w5 ⟨rfl, b5⟩
    have s5 := b5.size
    replace rr0 := rr0.below b5 (by omega)
    replace rp0 := rp0.next b5 (by omega)
    replace rw0 := rw0.next b5 (by omega)
    replace rx0 := rx0.next b5 (by omega)
    replace rg0 := rg0.next b5 (by omega)
    replace bb := bstep bb b5
    (go_wp2_with fail; (with_reducible refine (toBoolS_any _ L0 _ _ (RV.mono (B' := w5.heap.size) rr0 (by omega)) (Nat.le_refl _) hs0).mono ?_))
    rintro _ w6 ⟨vy0, rfl, ry0, b6⟩
    have s6 := b6.size
    replace rr0 := rr0.below b6 (by omega)
    replace rp0 := rp0.next b6 (by omega)
    replace rw0 := rw0.next b6 (by omega)
    replace rx0 := rx0.next b6 (by omega)
    replace rg0 := rg0.next b6 (by omega)
    replace bb := bstep bb b6
    (go_wp2_with fail; (with_reducible refine (eqBoolS_any _ _ L0 L0 _ _ true (RV.mono (B' := w6.heap.size) rx0.rv (by omega)) (RV.mono (B' := w6.heap.size) ry0.rv (by omega)) (Nat.le_refl _) (by omega) (eqB_self _)).mono ?_))
    rintro _ w7 ⟨rfl, b7⟩
    have s7 := b7.size
    replace rr0 := rr0.below b7 (by omega)
    replace rp0 := rp0.next b7 (by omega)
    replace rw0 := rw0.next b7 (by omega)
    replace rx0 := rx0.next b7 (by omega)
    replace rg0 := rg0.next b7 (by omega)
    replace ry0 := ry0.next b7 (by omega)
    replace bb := bstep bb b7
    have z8 := rx0
    (go_wp2_with fail; (with_reducible refine (markBoolS_any _ L0 _ _ _ _ rx0 (by omega) (by omega) (by omega)).mono ?_))
    rintro _ w8 ⟨rfl, nx0, g8⟩
    have s8 := g8.size
    have c8 := below_row z8 g8 (by omega)
    replace rr0 := rr0.below c8 (by omega)
    replace rp0 := rp0.grown g8 (fun k hk => by have p1 := (World.ownsRow.lt z8.1 k hk).1; have p2 := z8.2 k hk; omega)
    replace rw0 := rw0.grown g8 (fun k hk => by have p1 := (World.ownsRow.lt z8.1 k hk).1; have p2 := z8.2 k hk; omega)
    replace rg0 := rg0.grown g8 (fun k hk => by have p1 := (World.ownsRow.lt z8.1 k hk).1; have p2 := z8.2 k hk; omega)
    replace ry0 := ry0.grown g8 (fun k hk => by have p1 := (World.ownsRow.lt z8.1 k hk).1; have p2 := z8.2 k hk; omega)
    replace rx0 := nx0
    replace bb := bb.trans (c8.mono (by omega))
    clear z8 c8 g8
    (go_wp2_with fail; (with_reducible refine (eqIntS_any _ _ (runs L0) (runs L0) _ _ true (RV.mono (B' := w8.heap.size) rg0.rv (by omega)) (RV.mono (B' := w8.heap.size) rw0.rv (by omega)) (Nat.le_refl _) (hwl) (eqI_self _)).mono ?_))
    rintro _ w9 ⟨rfl, b9⟩
    have s9 := b9.size
    replace rr0 := rr0.below b9 (by omega)
    replace rw0 := rw0.next b9 (by omega)
    replace rg0 := rg0.next b9 (by omega)
    replace bb := bstep bb b9
    have z10 := rg0
    (go_wp2_with fail; (with_reducible refine (markIntS_any _ ((runs L0)) _ _ 1 _ rg0 (by omega) (by omega) (hwl)).mono ?_))
    rintro _ w10 ⟨rfl, ng0, g10⟩
    have s10 := g10.size
    have c10 := below_row z10 g10 (by omega)
    replace rr0 := rr0.below c10 (by omega)
    replace rw0 := rw0.grown g10 (fun k hk => by have p1 := (World.ownsRow.lt z10.1 k hk).1; have p2 := z10.2 k hk; omega)
    replace rg0 := ng0
    replace bb := bb.trans (c10.mono (by omega))
    clear z10 c10 g10
    (go_wp2_with fail; (with_reducible refine (heldIntS_any _ _ _ 1 _ (RV.mono (B' := w10.heap.size) rg0.rv (by omega)) (by omega) (by omega) (hwl)).mono ?_); rintro _ _ ⟨rfl, rfl⟩)
    (go_wp2_with fail; (with_reducible refine (toBoolS_any _ L0 _ _ (RV.mono (B' := w10.heap.size) rr0 (by omega)) (Nat.le_refl _) hs0).mono ?_))
    rintro _ w11 ⟨vz0, rfl, rz0, b11⟩
    have s11 := b11.size
    replace rr0 := rr0.below b11 (by omega)
    replace rw0 := rw0.next b11 (by omega)
    replace rg0 := rg0.next b11 (by omega)
    replace bb := bstep bb b11
    (go_wp2_with fail; (with_reducible refine (iBitsRuns_any _ L0 _ (RV.mono (B' := w11.heap.size) rz0.rv (by omega)) hs0).mono ?_))
    rintro _ w12 ⟨vh0, rfl, rh0, b12⟩
    have s12 := b12.size
    replace rr0 := rr0.below b12 (by omega)
    replace rw0 := rw0.next b12 (by omega)
    replace rg0 := rg0.next b12 (by omega)
    replace rz0 := rz0.next b12 (by omega)
    replace bb := bstep bb b12
    (go_wp2_with fail; (with_reducible refine (eqIntS_any _ _ (runs L0) (runs L0) _ _ true (RV.mono (B' := w12.heap.size) rh0.rv (by omega)) (RV.mono (B' := w12.heap.size) rw0.rv (by omega)) (Nat.le_refl _) (hwl) (eqI_self _)).mono ?_))
    rintro _ w13 ⟨rfl, b13⟩
    have s13 := b13.size
    replace rr0 := rr0.below b13 (by omega)
    replace rw0 := rw0.next b13 (by omega)
    replace rg0 := rg0.next b13 (by omega)
    replace rz0 := rz0.next b13 (by omega)
    replace rh0 := rh0.next b13 (by omega)
    replace bb := bstep bb b13
    (go_wp2_with fail; (with_reducible refine (heldIntS_any _ _ _ 1 _ (RV.mono (B' := w13.heap.size) rg0.rv (by omega)) (by omega) (by omega) (hwl)).mono ?_); rintro _ _ ⟨rfl, rfl⟩)
    go_wp2_with fail
    go_ret
    exact ⟨rfl, bb⟩
set_option maxHeartbeats 8000000 in
set_option maxRecDepth 100000 in
theorem walk_FnExactBitsOf (v0 : Value) (L0 : List Int) (w : World) (r0 : RV w w.heap.size v0 (L0.map (Value.int .i64))) (b0 : ∀ n ∈ L0, (Lit.int .i64 n).wf = true) :
    Calls Try.prog 10 #[v0] w fun e w' => e = .returned (.bool true) ∧ Below w.heap.size w w' := by
  have rr0 := r0
  obtain ⟨A0, cap0, rfl, hl0, hm0, hc0⟩ := r0
  rw [List.length_map] at rr0 hl0 ⊢
  clear hc0
  rcases small1 L0.length with hb | hs0
  · go_enter Try.func10, Try.ntmps10
    go_wp2_with fail
    go_ret
    exact ⟨rfl, Below.refl _ _⟩
  · go_enter Try.func10, Try.ntmps10
    have hwl : ((bitsOf L0).getD []).length ≤ 33554432 := bitsOf_len L0
    have HWF := hid' b0
    clear b0
    have bq : ((bitsOf L0).isSome != (bitsOf L0).isSome) = false := by simp
    (go_wp2_with fail; (with_reducible refine (toIntS_any _ L0 _ _ rr0 (Nat.le_refl _) hs0).mono ?_))
    rintro _ w1 ⟨vp0, rfl, rp0, b1⟩
    have s1 := b1.size
    replace rr0 := rr0.below b1 (by omega)
    have bb := b1
    (go_wp2_with fail; (with_reducible refine (sBitsOf_any _ L0 _ (RV.mono (B' := w1.heap.size) rp0.rv (by omega)) hs0 HWF.out).mono ?_))
    rintro _ w2 ⟨vw0, rfl, rw0, b2⟩
    have s2 := b2.size
    replace rr0 := rr0.below b2 (by omega)
    replace rp0 := rp0.next b2 (by omega)
    replace bb := bstep bb b2
    (go_wp2_with fail; (with_reducible refine (toIntS_any _ L0 _ _ (RV.mono (B' := w2.heap.size) rr0 (by omega)) (Nat.le_refl _) hs0).mono ?_))
    rintro _ w3 ⟨vx0, rfl, rx0, b3⟩
    have s3 := b3.size
    replace rr0 := rr0.below b3 (by omega)
    replace rp0 := rp0.next b3 (by omega)
    replace rw0 := rw0.next b3 (by omega)
    replace bb := bstep bb b3
    (go_wp2_with fail; (with_reducible refine (iBitsOf_any _ L0 _ (RV.mono (B' := w3.heap.size) rx0.rv (by omega)) hs0 HWF.out).mono ?_))
    rintro _ w4 ⟨vg0, rfl, rg0, b4⟩
    have s4 := b4.size
    replace rr0 := rr0.below b4 (by omega)
    replace rp0 := rp0.next b4 (by omega)
    replace rw0 := rw0.next b4 (by omega)
    replace rx0 := rx0.next b4 (by omega)
    replace bb := bstep bb b4
    (go_wp2_with fail; (with_reducible refine (eqBoolS_any _ _ ((bitsOf L0).getD []) ((bitsOf L0).getD []) _ _ true (RV.mono (B' := w4.heap.size) rg0.rv (by omega)) (RV.mono (B' := w4.heap.size) rw0.rv (by omega)) (Nat.le_refl _) (hwl) (eqB_self _)).mono ?_))
    rintro _ w5 ⟨rfl, b5⟩
    have s5 := b5.size
    replace rr0 := rr0.below b5 (by omega)
    replace rp0 := rp0.next b5 (by omega)
    replace rw0 := rw0.next b5 (by omega)
    replace rx0 := rx0.next b5 (by omega)
    replace rg0 := rg0.next b5 (by omega)
    replace bb := bstep bb b5
    (go_wp2_with fail; (with_reducible refine (toIntS_any _ L0 _ _ (RV.mono (B' := w5.heap.size) rr0 (by omega)) (Nat.le_refl _) hs0).mono ?_))
    rintro _ w6 ⟨vy0, rfl, ry0, b6⟩
    have s6 := b6.size
    replace rr0 := rr0.below b6 (by omega)
    replace rp0 := rp0.next b6 (by omega)
    replace rw0 := rw0.next b6 (by omega)
    replace rx0 := rx0.next b6 (by omega)
    replace rg0 := rg0.next b6 (by omega)
    replace bb := bstep bb b6
    (go_wp2_with fail; (with_reducible refine (eqIntS_any _ _ L0 L0 _ _ true (RV.mono (B' := w6.heap.size) rx0.rv (by omega)) (RV.mono (B' := w6.heap.size) ry0.rv (by omega)) (Nat.le_refl _) (by omega) (eqI_self _)).mono ?_))
    rintro _ w7 ⟨rfl, b7⟩
    have s7 := b7.size
    replace rr0 := rr0.below b7 (by omega)
    replace rp0 := rp0.next b7 (by omega)
    replace rw0 := rw0.next b7 (by omega)
    replace rx0 := rx0.next b7 (by omega)
    replace rg0 := rg0.next b7 (by omega)
    replace ry0 := ry0.next b7 (by omega)
    replace bb := bstep bb b7
    have z8 := rx0
    (go_wp2_with fail; (with_reducible refine (markIntS_any _ L0 _ _ _ _ rx0 (by omega) (by omega) (by omega)).mono ?_))
    rintro _ w8 ⟨rfl, nx0, g8⟩
    have s8 := g8.size
    have c8 := below_row z8 g8 (by omega)
    replace rr0 := rr0.below c8 (by omega)
    replace rp0 := rp0.grown g8 (fun k hk => by have p1 := (World.ownsRow.lt z8.1 k hk).1; have p2 := z8.2 k hk; omega)
    replace rw0 := rw0.grown g8 (fun k hk => by have p1 := (World.ownsRow.lt z8.1 k hk).1; have p2 := z8.2 k hk; omega)
    replace rg0 := rg0.grown g8 (fun k hk => by have p1 := (World.ownsRow.lt z8.1 k hk).1; have p2 := z8.2 k hk; omega)
    replace ry0 := ry0.grown g8 (fun k hk => by have p1 := (World.ownsRow.lt z8.1 k hk).1; have p2 := z8.2 k hk; omega)
    replace rx0 := nx0
    replace bb := bb.trans (c8.mono (by omega))
    clear z8 c8 g8
    (go_wp2_with fail; (with_reducible refine (eqBoolS_any _ _ ((bitsOf L0).getD []) ((bitsOf L0).getD []) _ _ true (RV.mono (B' := w8.heap.size) rg0.rv (by omega)) (RV.mono (B' := w8.heap.size) rw0.rv (by omega)) (Nat.le_refl _) (hwl) (eqB_self _)).mono ?_))
    rintro _ w9 ⟨rfl, b9⟩
    have s9 := b9.size
    replace rr0 := rr0.below b9 (by omega)
    replace rw0 := rw0.next b9 (by omega)
    replace rg0 := rg0.next b9 (by omega)
    replace bb := bstep bb b9
    have z10 := rg0
    (go_wp2_with fail; (with_reducible refine (markBoolS_any _ (((bitsOf L0).getD [])) _ _ 1 _ rg0 (by omega) (by omega) (hwl)).mono ?_))
    rintro _ w10 ⟨rfl, ng0, g10⟩
    have s10 := g10.size
    have c10 := below_row z10 g10 (by omega)
    replace rr0 := rr0.below c10 (by omega)
    replace rw0 := rw0.grown g10 (fun k hk => by have p1 := (World.ownsRow.lt z10.1 k hk).1; have p2 := z10.2 k hk; omega)
    replace rg0 := ng0
    replace bb := bb.trans (c10.mono (by omega))
    clear z10 c10 g10
    (go_wp2_with fail; (with_reducible refine (heldBoolS_any _ _ _ 1 _ (RV.mono (B' := w10.heap.size) rg0.rv (by omega)) (by omega) (by omega) (hwl)).mono ?_); rintro _ _ ⟨rfl, rfl⟩)
    (go_wp2_with fail; (with_reducible refine (toIntS_any _ L0 _ _ (RV.mono (B' := w10.heap.size) rr0 (by omega)) (Nat.le_refl _) hs0).mono ?_))
    rintro _ w11 ⟨vz0, rfl, rz0, b11⟩
    have s11 := b11.size
    replace rr0 := rr0.below b11 (by omega)
    replace rw0 := rw0.next b11 (by omega)
    replace rg0 := rg0.next b11 (by omega)
    replace bb := bstep bb b11
    (go_wp2_with fail; (with_reducible refine (iBitsOf_any _ L0 _ (RV.mono (B' := w11.heap.size) rz0.rv (by omega)) hs0 HWF.out).mono ?_))
    rintro _ w12 ⟨vh0, rfl, rh0, b12⟩
    have s12 := b12.size
    replace rr0 := rr0.below b12 (by omega)
    replace rw0 := rw0.next b12 (by omega)
    replace rg0 := rg0.next b12 (by omega)
    replace rz0 := rz0.next b12 (by omega)
    replace bb := bstep bb b12
    (go_wp2_with fail; (with_reducible refine (eqBoolS_any _ _ ((bitsOf L0).getD []) ((bitsOf L0).getD []) _ _ true (RV.mono (B' := w12.heap.size) rh0.rv (by omega)) (RV.mono (B' := w12.heap.size) rw0.rv (by omega)) (Nat.le_refl _) (hwl) (eqB_self _)).mono ?_))
    rintro _ w13 ⟨rfl, b13⟩
    have s13 := b13.size
    replace rr0 := rr0.below b13 (by omega)
    replace rw0 := rw0.next b13 (by omega)
    replace rg0 := rg0.next b13 (by omega)
    replace rz0 := rz0.next b13 (by omega)
    replace rh0 := rh0.next b13 (by omega)
    replace bb := bstep bb b13
    (go_wp2_with fail; (with_reducible refine (heldBoolS_any _ _ _ 1 _ (RV.mono (B' := w13.heap.size) rg0.rv (by omega)) (by omega) (by omega) (hwl)).mono ?_); rintro _ _ ⟨rfl, rfl⟩)
    go_wp2_with fail
    go_ret
    exact ⟨rfl, bb⟩
end Go.Proofs.Ytjmgkcmmhkpmhaa
