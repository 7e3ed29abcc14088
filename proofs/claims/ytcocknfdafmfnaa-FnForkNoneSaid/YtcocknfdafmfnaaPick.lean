/- The reader that draws: its contracts. What is drawn is not told, only its range. -/
import Derived.Test.YtcocknfdafmfnaaNum
import Derived.Laws.BitsAllLaws
import Derived.Laws.BitsLemmas
import Derived.Laws.Rows
import Derived.IntWalk
import Derived.OpenShut
namespace Go.Proofs.Ytcocknfdafmfnaa
set_option linter.unusedVariables false
open Go.RowKit

theorem ofInt_i64' (a : Nat) (ha : a < 9223372036854775808) : (BitVec.ofInt 64 (a : Int)).toNat = a := by
  rw [BitVec.ofInt_natCast, BitVec.toNat_ofNat]; exact Nat.mod_eq_of_lt (by omega)
theorem xor_i64_nonneg (a b : Int) (ha : 0 ≤ a) (ha' : a < 1000000000000) (hb : 0 ≤ b) (hb' : b < 1000000000000) : 0 ≤ bits .xor .i64 a b := by
  obtain ⟨x, rfl⟩ := Int.eq_ofNat_of_zero_le ha
  obtain ⟨y, rfl⟩ := Int.eq_ofNat_of_zero_le hb
  have h : x ^^^ y < 2 ^ 63 := Nat.xor_lt_two_pow (by omega) (by omega)
  show 0 ≤ IntKind.i64.wrap ((BitVec.ofInt 64 (x : Int) ^^^ BitVec.ofInt 64 (y : Int)).toNat : Int)
  rw [BitVec.toNat_xor, ofInt_i64' x (by omega), ofInt_i64' y (by omega), IntKind.wrap_i64]
  omega

/-- Block g is a reader at place p: its bytes lie below it. -/
def Rdr (w : World) (g p : Nat) : Prop :=
  ∃ (A : Option Addr) (n cap : Nat), w.heap[g]? = some (.cells #[.slice A n cap, .int .i64 p] 62 (0, 0)) ∧ n ≤ 2000 ∧
    (0 < n → ∃ b off, A = some ⟨b, off, none⟩ ∧ b < g ∧ ∀ i, i < n → ∃ c : Int, 0 ≤ c ∧ c ≤ 255 ∧ w.cell? ⟨b, off + i, none⟩ = some (.int .u8 c))

theorem Rdr.lt {w : World} {g p : Nat} (h : Rdr w g p) : g < w.heap.size := by
  obtain ⟨A, n, cap, hg, _⟩ := h
  rcases Nat.lt_or_ge g w.heap.size with hlt | hge
  · exact hlt
  · rw [Array.getElem?_eq_none hge] at hg; cases hg
theorem Rdr.below {w w' : World} {g p B : Nat} (h : Rdr w g p) (hb : Below B w w') (hg : g < B) : Rdr w' g p := by
  obtain ⟨A, n, cap, h1, h2, h3⟩ := h
  refine ⟨A, n, cap, (hb.block g hg).trans h1, h2, fun h0 => ?_⟩
  obtain ⟨b, off, hA, hbg, hc⟩ := h3 h0
  refine ⟨b, off, hA, hbg, fun i hi => ?_⟩
  obtain ⟨c, c0, c1, hcell⟩ := hc i hi
  exact ⟨c, c0, c1, (hb.cell (p := ⟨b, off + i, none⟩) (by show b < B; omega)).trans hcell⟩

/-- What a draw leaves: a number from 0 to n - 1; the reader one place on; nothing else turned. -/
def PickPost (g p : Nat) (n : Int) (w : World) (e : Ending) (w' : World) : Prop :=
  ∃ x : Int, e = .returned (.int .i64 x) ∧ 0 ≤ x ∧ x < n ∧ Rdr w' g (p + 1) ∧ w.grownBy w' (some g)

theorem rdr_step {w w' : World} {g p : Nat} {A : Option Addr} {n cap : Nat} (hn : n ≤ 2000)
    (h3 : 0 < n → ∃ b off, A = some ⟨b, off, none⟩ ∧ b < g ∧ ∀ i, i < n → ∃ c : Int, 0 ≤ c ∧ c ≤ 255 ∧ w.cell? ⟨b, off + i, none⟩ = some (.int .u8 c))
    (hg : w'.heap[g]? = some (.cells #[.slice A n cap, .int .i64 (p + 1 : Nat)] 62 (0, 0))) (hk : w.grownBy w' (some g)) : Rdr w' g (p + 1) := by
  refine ⟨A, n, cap, hg, hn, fun h0 => ?_⟩
  obtain ⟨b, off, hA, hbg, hc⟩ := h3 h0
  refine ⟨b, off, hA, hbg, fun i hi => ?_⟩
  obtain ⟨c, c0, c1, hcell⟩ := hc i hi
  exact ⟨c, c0, c1, hk.cell hcell (by simp; omega)⟩

set_option maxHeartbeats 2000000 in
theorem pick_any (g p : Nat) (n : Int) (w : World) (h : Rdr w g p) (n0 : 1 ≤ n) (n1 : n ≤ 100000) (hp : p ≤ 100000) :
    Calls Try.prog 35 #[.pointer (some ⟨g, 0, none⟩), .int .i64 n] w (PickPost g p n w) := by
  have hlt := h.lt
  obtain ⟨A, N, cap, hg, hN, h3⟩ := h
  have c0 : w.cell? ⟨g, 0, none⟩ = some (.slice A N cap) := by rw [cell_of_row w g 0 _ _ _ hg]; rfl
  have c1 : w.cell? ⟨g, 1, none⟩ = some (.int .i64 (p : Int)) := by rw [cell_of_row w g 1 _ _ _ hg]; rfl
  have f1 : w.frozen? ⟨g, 1, none⟩ = false := frozen_of_row w g 1 _ _ hg
  have hg1 : ∀ x : Int, x = ((p + 1 : Nat) : Int) → (w.setCell ⟨g, 1, none⟩ (.int .i64 x)).heap[g]? = some (.cells #[.slice A N cap, .int .i64 (p + 1 : Nat)] 62 (0, 0)) := by
    intro x hx; rw [heap_setCell_same w g 1 _ _ _ hg, hx]; rfl
  have hk1 : ∀ x : Int, w.grownBy (w.setCell ⟨g, 1, none⟩ (.int .i64 x)) (some g) := fun x =>
    ⟨rfl, rfl, rfl, by simp, fun k _ hk => heap_setCell_other w ⟨g, 1, none⟩ k _ (fun e => hk (by simp [e]))⟩
  have FIN : Hid (∀ (m : Nat) (x : Int) (e : Ending), e = .returned (.int .i64 x) → 0 ≤ x → x < n → PickPost g p n w e ((w.setCell ⟨g, 1, none⟩ (.int .i64 ((p : Int) + 1))).drewN m)) := by
    intro m x e he x0 x1
    have hk : w.grownBy ((w.setCell ⟨g, 1, none⟩ (.int .i64 ((p : Int) + 1))).drewN m) (some g) := by
      have := hk1 ((p : Int) + 1)
      exact ⟨this.os, this.tape, this.output, this.size, this.block⟩
    exact ⟨x, he, x0, x1, rdr_step hN h3 (hg1 _ (by omega)) hk, hk⟩
  clear hg1 hk1 hg hlt
  have n1' : decide (n < 1) = false := by simp; omega
  by_cases h0 : N = 0
  · subst h0
    clear h3
    go_enter Try.func35, Try.ntmps35
    go_wp2
    go_ret
    exact FIN.out 0 0 _ rfl (by omega) (by omega)
  · obtain ⟨b, off, rfl, hbg, hc⟩ := h3 (by omega)
    have hbg' : b ≠ g := by omega
    have hN0 : ((N : Int) == 0) = false := by simp; omega
    have hN1 : 1 ≤ N := by omega
    by_cases hk : p < N
    · obtain ⟨c, c0', c1', hcell⟩ := hc p hk
      clear hc h3
      have q0 : 0 ≤ c % n := Int.emod_nonneg _ (by omega)
      have q1 : c % n < n := Int.emod_lt_of_pos _ (by omega)
      go_enter Try.func35, Try.ntmps35
      go_wp2
      go_ret
      exact FIN.out 0 _ _ rfl q0 q1
    · obtain ⟨ca, a0, a1, hca⟩ := hc (p % N) (Nat.mod_lt _ (by omega))
      obtain ⟨cb, b0, b1, hcb⟩ := hc ((p * 7 + 3) % N) (Nat.mod_lt _ (by omega))
      clear hc h3
      have hk' : N ≤ p := by omega
      clear hk
      have lt1 : p % N < N := Nat.mod_lt _ (by omega)
      have lt2 : (p * 7 + 3) % N < N := Nat.mod_lt _ (by omega)
      have dv : p / N ≤ 100000 := Nat.le_trans (Nat.div_le_self _ _) hp
      have e1 : (p : Int).tmod (N : Int) = ((p % N : Nat) : Int) := by rw [Int.tmod_eq_emod_of_nonneg (by omega)]; rfl
      have e2 : ((p : Int) * 7 + 3).tmod (N : Int) = (((p * 7 + 3) % N : Nat) : Int) := by rw [Int.tmod_eq_emod_of_nonneg (by omega)]; rfl
      have e3 : (p : Int).tdiv (N : Int) = ((p / N : Nat) : Int) := by rw [Int.tdiv_eq_ediv_of_nonneg (by omega)]; rfl
      obtain ⟨i1, hi1⟩ : ∃ i, i = p % N := ⟨_, rfl⟩
      obtain ⟨i2, hi2⟩ : ∃ i, i = (p * 7 + 3) % N := ⟨_, rfl⟩
      obtain ⟨d3, hd3⟩ : ∃ i, i = p / N := ⟨_, rfl⟩
      rw [← hi1] at lt1 e1 hca
      rw [← hi2] at lt2 e2 hcb
      rw [← hd3] at dv e3
      clear hi1 hi2 hd3
      have lt1' : (i1 : Int) < (N : Int) := by omega
      have lt2' : (i2 : Int) < (N : Int) := by omega
      have k1 : IntKind.i64.wrap ((p : Int) * 7) = (p : Int) * 7 := IntWalk.i64_in _ (by omega)
      have k2 : IntKind.i64.wrap ((p : Int) * 7 + 3) = (p : Int) * 7 + 3 := IntWalk.i64_in _ (by omega)
      have k3 : IntKind.i64.wrap (ca * 131) = ca * 131 := IntWalk.i64_in _ (by omega)
      have k4 : IntKind.i64.wrap (cb * 1117) = cb * 1117 := IntWalk.i64_in _ (by omega)
      have k5 : IntKind.i64.wrap (ca * 131 + cb * 1117) = ca * 131 + cb * 1117 := IntWalk.i64_in _ (by omega)
      have k6 : IntKind.i64.wrap ((p : Int) * 29) = (p : Int) * 29 := IntWalk.i64_in _ (by omega)
      have k7 : IntKind.i64.wrap (ca * 131 + cb * 1117 + (p : Int) * 29) = ca * 131 + cb * 1117 + (p : Int) * 29 := IntWalk.i64_in _ (by omega)
      have k8 : IntKind.i64.wrap ((d3 : Int) * 53) = (d3 : Int) * 53 := IntWalk.i64_in _ (by omega)
      have k9 : IntKind.i64.wrap (ca * 131 + cb * 1117 + (p : Int) * 29 + (d3 : Int) * 53) = ca * 131 + cb * 1117 + (p : Int) * 29 + (d3 : Int) * 53 := IntWalk.i64_in _ (by omega)
      have kd : IntKind.i64.wrap (d3 : Int) = (d3 : Int) := IntWalk.i64_in _ (by omega)
      have kca : IntKind.i64.wrap ca = ca := IntWalk.i64_in _ (by omega)
      have kcb : IntKind.i64.wrap cb = cb := IntWalk.i64_in _ (by omega)
      go_enter Try.func35, Try.ntmps35
      go_wp2
      go_quiet (fail)
      clear e1 e2 e3 k1 k2 k3 k4 k5 k6 k7 k8 k9 kd kca kcb
      have bx : 0 ≤ bits .xor .i64 (ca * 131 + cb * 1117 + (p : Int) * 29 + (d3 : Int) * 53) ((ca * 131 + cb * 1117 + (p : Int) * 29 + (d3 : Int) * 53) / 64) := xor_i64_nonneg _ _ (by omega) (by omega) (by omega) (by omega)
      go_wp2
      go_ret
      exact FIN.out _ _ _ rfl (Int.emod_nonneg _ (by omega)) (Int.emod_lt_of_pos _ (by omega))
end Go.Proofs.Ytcocknfdafmfnaa
