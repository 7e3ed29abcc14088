/- The walk of the law's own marks on a list of proofs of forks. -/
import Derived.Test.YtcocknfdafmfnaaForkR
namespace Go.Proofs.Ytcocknfdafmfnaa
set_option linter.unusedVariables false
open Go.RowKit

theorem grown_setR {w w1 : World} {g i : Nat} {v : Value} (h : w.grownBy w1 (some g)) : w.grownBy (w1.setCell ⟨g, i, none⟩ v) (some g) :=
  ⟨h.os, h.tape, h.output, by simpa using h.size, fun k hk hne => (heap_setCell_other w1 ⟨g, i, none⟩ k v (by intro e; exact hne (by rw [show k = g from e]))).trans (h.block k hk hne)⟩
set_option maxHeartbeats 8000000 in
set_option maxRecDepth 100000 in
theorem markForkS_any (v : Value) (F : List FK) (lo hi : Nat) (w : World) (h : RowF w lo hi v F) (hn : F.length ≤ 1048576) :
    Calls Try.prog 17 #[v, .int .i64 1] w fun e w' => e = .returned (.int .i64 (1 + 7 * (F.length : Int))) ∧ w.grownBy w' v.ownBlock := by
  obtain ⟨g, rfl, hl, hh, hm, cur, hbx, hs, hcc⟩ := h
  have B0 : ∃ cur : Array Value, Box w g 26 cur ∧ cur.size = F.length * 7 := ⟨cur, hbx, hs⟩
  clear hbx hs hcc cur
  show Calls _ _ _ _ (fun e w' => e = .returned (.int .i64 (1 + 7 * (F.length : Int))) ∧ w.grownBy w' (some g))
  go_enter Try.func17, Try.ntmps17
  go_wp2_with fail
  go_loopw [1, 5] (fun q i wr => ∃ k : Nat, k ≤ F.length ∧ i = .int .i64 k ∧ q = .int .i64 (1 + 7 * (k : Int)) ∧ (∃ cur : Array Value, Box wr g 26 cur ∧ cur.size = F.length * 7) ∧ w.grownBy wr (some g)) (fun _ i _ => F.length - (intOf i).toNat)
  case atStart => exact ⟨0, Nat.zero_le _, rfl, by go_num, B0, World.grownBy.refl _ _⟩
  case round =>
    clear B0
    obtain ⟨k, hk, rfl, rfl, ⟨cur, hb, hs⟩, hg⟩ := hrel
    by_cases hlt : k < F.length
    · obtain ⟨q, hq⟩ : ∃ q : Int, q = 1 + 7 * (k : Int) := ⟨_, rfl⟩
      have q0 : 1 ≤ q := by omega
      have q1 : q ≤ 8000000 := by omega
      have HQ := hid' hq
      rw [← hq]
      clear hq
      have hnb : ∀ (i0 i1 i2 i3 i4 i5 i6 : Nat) (v0 v1 v2 v3 v4 v5 v6 : Value), ∃ cur' : Array Value, Box (((((((wr.setCell ⟨g, i0, none⟩ v0).setCell ⟨g, i1, none⟩ v1).setCell ⟨g, i2, none⟩ v2).setCell ⟨g, i3, none⟩ v3).setCell ⟨g, i4, none⟩ v4).setCell ⟨g, i5, none⟩ v5).setCell ⟨g, i6, none⟩ v6) g 26 cur' ∧ cur'.size = F.length * 7 := fun i0 i1 i2 i3 i4 i5 i6 v0 v1 v2 v3 v4 v5 v6 => ⟨_, (((((((hb.set i0 v0).set i1 v1).set i2 v2).set i3 v3).set i4 v4).set i5 v5).set i6 v6), by simpa using hs⟩
      have hng : ∀ (i0 i1 i2 i3 i4 i5 i6 : Nat) (v0 v1 v2 v3 v4 v5 v6 : Value), w.grownBy (((((((wr.setCell ⟨g, i0, none⟩ v0).setCell ⟨g, i1, none⟩ v1).setCell ⟨g, i2, none⟩ v2).setCell ⟨g, i3, none⟩ v3).setCell ⟨g, i4, none⟩ v4).setCell ⟨g, i5, none⟩ v5).setCell ⟨g, i6, none⟩ v6) (some g) := fun i0 i1 i2 i3 i4 i5 i6 v0 v1 v2 v3 v4 v5 v6 => grown_setR (grown_setR (grown_setR (grown_setR (grown_setR (grown_setR (grown_setR hg))))))
      have HNB := hid' hnb
      have HNG := hid' hng
      have gt : ∀ j, j < 7 → ∃ u, wr.cell? ⟨g, k * 7 + j, none⟩ = some u := fun j hj => ⟨cur[k * 7 + j]'(by omega), by rw [hb.cell]; exact Array.getElem?_eq_getElem (by omega)⟩
      obtain ⟨y0, d0⟩ := gt 0 (by omega)
      obtain ⟨y1, d1⟩ := gt 1 (by omega)
      obtain ⟨y2, d2⟩ := gt 2 (by omega)
      obtain ⟨y3, d3⟩ := gt 3 (by omega)
      obtain ⟨y4, d4⟩ := gt 4 (by omega)
      obtain ⟨y5, d5⟩ := gt 5 (by omega)
      obtain ⟨y6, d6⟩ := gt 6 (by omega)
      rw [Nat.add_zero] at d0
      have f0 := hb.frozen (k * 7)
      have f1 := hb.frozen (k * 7 + 1)
      have f2 := hb.frozen (k * 7 + 2)
      have f3 := hb.frozen (k * 7 + 3)
      have f4 := hb.frozen (k * 7 + 4)
      have f5 := hb.frozen (k * 7 + 5)
      have f6 := hb.frozen (k * 7 + 6)
      clear gt hb hs cur hg hnb hng
      go_wp2_with fail
      go_roundw
      case rel =>
        refine ⟨k + 1, by omega, by go_num, by rw [HQ.out]; go_num, ?_, ?_⟩
        · exact HNB.out _ _ _ _ _ _ _ _ _ _ _ _ _ _
        · exact HNG.out _ _ _ _ _ _ _ _ _ _ _ _ _ _
      case measure => simp [intOf]; omega
    · have hkl : k = F.length := by omega
      subst hkl
      clear hb hs cur
      go_wp2_with fail
      go_ret
      exact ⟨rfl, hg⟩
end Go.Proofs.Ytcocknfdafmfnaa
