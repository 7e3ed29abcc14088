/- The walk of the law that holds ForkNamed against the reference. -/
import Derived.Test.YtcocknfdafmfnaaForkM
namespace Go.Proofs.Ytcocknfdafmfnaa
set_option linter.unusedVariables false
open Go.RowKit
theorem small1 (n : Nat) : 1048576 < n ∨ n ≤ 1048576 := by omega
set_option maxHeartbeats 8000000 in
set_option maxRecDepth 100000 in
theorem walk_FnExactForkNamed (v0 : Value) (L0 : List FK) (w : World) (r0 : RF w w.heap.size v0 L0) :
    Calls Try.prog 5 #[v0] w fun e w' => e = .returned (.bool true) ∧ Below w.heap.size w w' := by
  have rr0 := r0
  obtain ⟨A0, cap0, rfl, hl0, hm0, hc0⟩ := r0
  clear hc0
  rcases small1 L0.length with hb | hs0
  · have H := hid' (if_pos hb : (if 1048576 < L0.length then (-1 : Int) else 1048576 - (L0.length : Int)) = -1)
    go_enter Try.func5, Try.ntmps5
    (go_wp2_with fail; (with_reducible refine (szForkS_any _ L0 _ _ rr0).mono ?_); rintro _ _ ⟨rfl, rfl⟩)
    rw [H.out]
    go_wp2_with fail
    go_ret
    exact ⟨rfl, Below.refl _ _⟩
  · have H := hid' (if_neg (Nat.not_lt.2 hs0) : (if 1048576 < L0.length then (-1 : Int) else 1048576 - (L0.length : Int)) = 1048576 - (L0.length : Int))
    have hwl : (named L0).length ≤ 33554432 := by have := named_len L0; omega
    go_enter Try.func5, Try.ntmps5
    (go_wp2_with fail; (with_reducible refine (szForkS_any _ L0 _ _ rr0).mono ?_); rintro _ _ ⟨rfl, rfl⟩)
    rw [H.out]
    (go_wp2_with fail; (with_reducible refine (toForkS_any _ L0 _ _ rr0 (Nat.le_refl _) hs0).mono ?_))
    rintro _ w1 ⟨vp0, rfl, rp0, b1⟩
    have s1 := b1.size
    replace rr0 := rr0.below b1 (by omega)
    have bb := b1
    (go_wp2_with fail; (with_reducible refine (sForkNamed_any _ L0 _ _ (RF.mono (B' := w1.heap.size) rp0.rf (by omega)) (Nat.le_refl _) hs0).mono ?_))
    rintro _ w2 ⟨vw0, rfl, rw0, b2⟩
    have s2 := b2.size
    replace rr0 := rr0.below b2 (by omega)
    replace rp0 := rp0.next b2 (by omega)
    replace bb := bstep bb b2
    (go_wp2_with fail; (with_reducible refine (toForkS_any _ L0 _ _ (RF.mono (B' := w2.heap.size) rr0 (by omega)) (Nat.le_refl _) hs0).mono ?_))
    rintro _ w3 ⟨vx0, rfl, rx0, b3⟩
    have s3 := b3.size
    replace rr0 := rr0.below b3 (by omega)
    replace rp0 := rp0.next b3 (by omega)
    replace rw0 := rw0.next b3 (by omega)
    replace bb := bstep bb b3
    (go_wp2_with fail; (with_reducible refine (iForkNamed_any _ L0 _ _ (RF.mono (B' := w3.heap.size) rx0.rf (by omega)) (Nat.le_refl _) hs0).mono ?_))
    rintro _ w4 ⟨vg0, rfl, rg0, b4⟩
    have s4 := b4.size
    replace rr0 := rr0.below b4 (by omega)
    replace rp0 := rp0.next b4 (by omega)
    replace rw0 := rw0.next b4 (by omega)
    replace rx0 := rx0.next b4 (by omega)
    replace bb := bstep bb b4
    (go_wp2_with fail; (with_reducible refine (eqIntS_any _ _ (named L0) (named L0) _ _ true (RV.mono (B' := w4.heap.size) rg0.rv (by omega)) (RV.mono (B' := w4.heap.size) rw0.rv (by omega)) (Nat.le_refl _) (hwl) (eqI_self _)).mono ?_))
    rintro _ w5 ⟨rfl, b5⟩
    have s5 := b5.size
    replace rr0 := rr0.below b5 (by omega)
    replace rp0 := rp0.next b5 (by omega)
    replace rw0 := rw0.next b5 (by omega)
    replace rx0 := rx0.next b5 (by omega)
    replace rg0 := rg0.next b5 (by omega)
    replace bb := bstep bb b5
    (go_wp2_with fail; (with_reducible refine (toForkS_any _ L0 _ _ (RF.mono (B' := w5.heap.size) rr0 (by omega)) (Nat.le_refl _) hs0).mono ?_))
    rintro _ w6 ⟨vy0, rfl, ry0, b6⟩
    have s6 := b6.size
    replace rr0 := rr0.below b6 (by omega)
    replace rp0 := rp0.next b6 (by omega)
    replace rw0 := rw0.next b6 (by omega)
    replace rx0 := rx0.next b6 (by omega)
    replace rg0 := rg0.next b6 (by omega)
    replace bb := bstep bb b6
    (go_wp2_with fail; (with_reducible refine (eqForkS_any _ _ L0 _ _ (RF.mono (B' := w6.heap.size) rx0.rf (by omega)) (RF.mono (B' := w6.heap.size) ry0.rf (by omega)) (Nat.le_refl _) hs0).mono ?_))
    rintro _ w7 ⟨rfl, b7⟩
    have s7 := b7.size
    replace rr0 := rr0.below b7 (by omega)
    replace rp0 := rp0.next b7 (by omega)
    replace rw0 := rw0.next b7 (by omega)
    replace rx0 := rx0.next b7 (by omega)
    replace rg0 := rg0.next b7 (by omega)
    replace ry0 := ry0.next b7 (by omega)
    replace bb := bstep bb b7
    have z8 := rx0
    (go_wp2_with fail; (with_reducible refine (markForkS_any _ L0 _ _ _ rx0 hs0).mono ?_))
    rintro _ w8 ⟨rfl, g8⟩
    have s8 := g8.size
    have c8 := below_rowF z8 g8 (by omega)
    replace rr0 := rr0.below c8 (by omega)
    replace rp0 := rp0.grown g8 (fun k hk => by have p1 := z8.blk hk; omega)
    replace rw0 := rw0.grown g8 (fun k hk => by have p1 := z8.blk hk; omega)
    replace rg0 := rg0.grown g8 (fun k hk => by have p1 := z8.blk hk; omega)
    replace ry0 := ry0.grown g8 (fun k hk => by have p1 := z8.blk hk; omega)
    replace bb := bb.trans (c8.mono (by omega))
    clear z8 c8 g8 rx0
    (go_wp2_with fail; (with_reducible refine (eqIntS_any _ _ (named L0) (named L0) _ _ true (RV.mono (B' := w8.heap.size) rg0.rv (by omega)) (RV.mono (B' := w8.heap.size) rw0.rv (by omega)) (Nat.le_refl _) (hwl) (eqI_self _)).mono ?_))
    rintro _ w9 ⟨rfl, b9⟩
    have s9 := b9.size
    replace rr0 := rr0.below b9 (by omega)
    replace rw0 := rw0.next b9 (by omega)
    replace rg0 := rg0.next b9 (by omega)
    replace bb := bstep bb b9
    have z10 := rg0
    (go_wp2_with fail; (with_reducible refine (markIntS_any _ (named L0) _ _ 1 _ rg0 (by omega) (by omega) (hwl)).mono ?_))
    rintro _ w10 ⟨rfl, ng0, g10⟩
    have s10 := g10.size
    have c10 := below_row z10 g10 (by omega)
    replace rr0 := rr0.below c10 (by omega)
    replace rw0 := rw0.grown g10 (fun k hk => by have p1 := (World.ownsRow.lt z10.1 k hk).1; have p2 := z10.2 k hk; omega)
    replace rg0 := ng0
    replace bb := bb.trans (c10.mono (by omega))
    clear z10 c10 g10
    (go_wp2_with fail; (with_reducible refine (heldIntS_any _ _ _ 1 _ (RV.mono (B' := w10.heap.size) rg0.rv (by omega)) (by omega) (by omega) (hwl)).mono ?_); rintro _ _ ⟨rfl, rfl⟩)
    (go_wp2_with fail; (with_reducible refine (toForkS_any _ L0 _ _ (RF.mono (B' := w10.heap.size) rr0 (by omega)) (Nat.le_refl _) hs0).mono ?_))
    rintro _ w11 ⟨vz0, rfl, rz0, b11⟩
    have s11 := b11.size
    replace rr0 := rr0.below b11 (by omega)
    replace rw0 := rw0.next b11 (by omega)
    replace rg0 := rg0.next b11 (by omega)
    replace bb := bstep bb b11
    (go_wp2_with fail; (with_reducible refine (iForkNamed_any _ L0 _ _ (RF.mono (B' := w11.heap.size) rz0.rf (by omega)) (Nat.le_refl _) hs0).mono ?_))
    rintro _ w12 ⟨vh0, rfl, rh0, b12⟩
    have s12 := b12.size
    replace rr0 := rr0.below b12 (by omega)
    replace rw0 := rw0.next b12 (by omega)
    replace rg0 := rg0.next b12 (by omega)
    replace rz0 := rz0.next b12 (by omega)
    replace bb := bstep bb b12
    (go_wp2_with fail; (with_reducible refine (eqIntS_any _ _ (named L0) (named L0) _ _ true (RV.mono (B' := w12.heap.size) rh0.rv (by omega)) (RV.mono (B' := w12.heap.size) rw0.rv (by omega)) (Nat.le_refl _) (hwl) (eqI_self _)).mono ?_))
    rintro _ w13 ⟨rfl, b13⟩
    have s13 := b13.size
    replace rr0 := rr0.below b13 (by omega)
    replace rw0 := rw0.next b13 (by omega)
    replace rg0 := rg0.next b13 (by omega)
    replace rz0 := rz0.next b13 (by omega)
    replace rh0 := rh0.next b13 (by omega)
    replace bb := bstep bb b13
    (go_wp2_with fail; (with_reducible refine (heldIntS_any _ _ _ 1 _ (RV.mono (B' := w13.heap.size) rg0.rv (by omega)) (by omega) (by omega) (hwl)).mono ?_); rintro _ _ ⟨rfl, rfl⟩)
    go_wp2_with fail
    go_ret
    exact ⟨rfl, bb⟩
end Go.Proofs.Ytcocknfdafmfnaa
