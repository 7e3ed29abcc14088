/- The walk of the reference's TreeGrowthCheck. -/
import Derived.Test.YtpbdehncmincaaaGCheck
namespace Go.Proofs.Ytpbdehncmincaaa
set_option linter.unusedVariables false
open Go.RowKit

set_option maxHeartbeats 8000000 in
set_option maxRecDepth 100000 in
theorem sGrowthCheck_b (m old n d : Int) (v : Value) (l : List Int) (w : World) (b : Bool) (h : RV w w.heap.size v (l.map (Value.int .i64))) (hn : l.length ≤ 1048576) (hb : gcheck m old n d l = b) :
    Calls Try.prog 18 #[.int .i64 m, .int .i64 old, .int .i64 n, .int .i64 d, v] w fun e w' => e = .returned (.bool b) ∧ Below w.heap.size w w' := by
  have rr := h
  obtain ⟨A, cap, rfl, hl, hm, hc⟩ := h
  rw [List.length_map] at rr hl ⊢
  clear hc
  have HB := hid' hb
  clear hb
  cases h1 : inB n 0 16
  · have HF : Hid (b = false) := HB.out.symm.trans (gcheck_no (by unfold gfront; rw [h1]; rfl))
    go_enter Try.func18, Try.ntmps18
    (go_wp2_with fail; (with_reducible refine (l6In_b n 0 16 false _ h1).mono ?_); rintro _ _ ⟨rfl, rfl⟩)
    go_wp2_with fail
    go_ret
    exact ⟨retB HF.out.symm, Below.refl _ _⟩
  · obtain ⟨n0, n1⟩ := inB_true.1 h1
    cases h2 : inB m 0 n
    · have HF : Hid (b = false) := HB.out.symm.trans (gcheck_no (by unfold gfront; rw [h1, h2]; rfl))
      go_enter Try.func18, Try.ntmps18
      (go_wp2_with fail; (with_reducible refine (l6In_b n 0 16 true _ h1).mono ?_); rintro _ _ ⟨rfl, rfl⟩)
      (go_wp2_with fail; (with_reducible refine (l6In_b m 0 n false _ h2).mono ?_); rintro _ _ ⟨rfl, rfl⟩)
      go_wp2_with fail
      go_ret
      exact ⟨retB HF.out.symm, Below.refl _ _⟩
    · obtain ⟨i0, i1⟩ := inB_true.1 h2
      cases h4 : digs l
      · have HF : Hid (b = false) := HB.out.symm.trans (gcheck_no (by unfold gfront; rw [h1, h2, h4]; rfl))
        go_enter Try.func18, Try.ntmps18
        (go_wp2_with fail; (with_reducible refine (l6In_b n 0 16 true _ h1).mono ?_); rintro _ _ ⟨rfl, rfl⟩)
        (go_wp2_with fail; (with_reducible refine (l6In_b m 0 n true _ h2).mono ?_); rintro _ _ ⟨rfl, rfl⟩)
        (go_wp2_with fail; (with_reducible refine (l2Digests_b _ l _ _ false rr hn h4).mono ?_); rintro _ _ ⟨rfl, rfl⟩)
        go_wp2_with fail
        go_ret
        exact ⟨retB HF.out.symm, Below.refl _ _⟩
      · obtain ⟨M, rfl⟩ : ∃ M : Nat, m = (M : Int) := ⟨m.toNat, by omega⟩
        obtain ⟨N, rfl⟩ : ∃ N : Nat, n = (N : Int) := ⟨n.toNat, by omega⟩
        have hMN : M ≤ N := by omega
        have hN16 : N ≤ 16 := by omega
        have hfr : gfront (M : Int) (N : Int) l = true := by unfold gfront; rw [h1, h2, h4]; rfl
        obtain ⟨g9, gle, _⟩ := grow_len M N hN16 hMN
        have HFR := hid' hfr
        have l3 := (tr_all 0 N (by omega) hN16).1
        clear hfr
        go_enter Try.func18, Try.ntmps18
        (go_wp2_with fail; (with_reducible refine (l6In_b (N : Int) 0 16 true _ h1).mono ?_); rintro _ _ ⟨rfl, rfl⟩)
        (go_wp2_with fail; (with_reducible refine (l6In_b (M : Int) 0 (N : Int) true _ h2).mono ?_); rintro _ _ ⟨rfl, rfl⟩)
        (go_wp2_with fail; (with_reducible refine (l2Digests_b _ l _ _ true rr hn h4).mono ?_); rintro _ _ ⟨rfl, rfl⟩)
        (go_wp2_with fail; (with_reducible refine (l2Sizes_any M N _ hMN hN16).mono ?_))
        rintro _ w1 ⟨v1, rfl, o1, b1⟩
        have s1 := b1.size
        obtain ⟨A1, c1, rfl⟩ := own_shape o1
        rw [szF_len] at o1 ⊢
        by_cases hlen : l.length = (grow M N).length
        · have q1 : ((l.length : Int) == ((grow M N).length : Int)) = true := beq_iff_eq.2 (by omega)
          have q2 : ((l.length : Int) != ((grow M N).length : Int)) = false := by rw [bne, q1]; rfl
          have HL := hid' hlen
          have HV0 := hid' (HB.out.symm.trans (gcheck_yes HFR.out hlen))
          have rr1 := rr.below b1 (Nat.le_refl _)
          have RT := rv_take (k := (tr 0 M).length) rr1 (by rw [List.length_map]; omega)
          rw [← List.map_take] at RT
          have htl : (l.take (tr 0 M).length).length ≤ 1048576 := by rw [List.length_take]; omega
          have hM0 : digB (M : Int) = true := digB_true.2 ⟨by omega, by omega⟩
          have hN0 : digB (N : Int) = true := digB_true.2 ⟨by omega, by omega⟩
          have f1 : ((tr 0 M).length : Int) ≤ (cap : Int) := by omega
          have f2 : ((tr 0 M).length : Int) ≤ (l.length : Int) := by omega
          clear hlen
          (go_wp2_with fail; (with_reducible refine (l2Fold_any (M : Int) _ (l.take (tr 0 M).length) _ _ RT htl (digs_take h4 _) hM0).mono ?_); rintro _ _ ⟨rfl, rfl⟩)
          obtain ⟨oo, hoo⟩ : ∃ oo, foldD (M : Int) (l.take (tr 0 M).length) = oo := ⟨_, rfl⟩
          rw [hoo] at HV0 ⊢
          clear hoo RT htl
          cases hold : oo == old
          · have HF : Hid (b = false) := by unfold Hid; rw [HV0.out, hold]; rfl
            clear HV0
            go_wp2_with fail
            go_ret
            exact ⟨retB HF.out.symm, b1⟩
          · have HV : Hid (b = (gval M N (N : Int) l == d)) := by unfold Hid; rw [HV0.out, hold]; rfl
            have hsum := grow_sum M N hN16 hMN
            have r1 : RV w1 w1.heap.size (.slice A1 (grow M N).length c1) ((((grow M N).map (·.2)).map fun h => ((2 ^ h : Nat) : Int)).map (Value.int .i64)) := o1.rv
            have hl2 : Hid (l.length = ((grow M N).map (·.2)).length) := by unfold Hid; rw [List.length_map]; exact HL.out
            have rr2 := RV.mono (B' := w1.heap.size) rr1 s1
            have h9 : ((grow M N).map (·.2)).length ≤ 16 := by rw [List.length_map]; omega
            have HMG := hid' (merge_ok l M N hN16 hMN HL.out)
            have hgd := gpeaks_digs (m := M) (n := N) (l := l) h4
            have hgl : (gpeaks pr M N l 0).length ≤ 1048576 := by unfold gpeaks; rw [List.length_map]; omega
            clear HV0
            (go_wp2_with fail; (with_reducible refine (l2Merge_any ((grow M N).map (·.2)) l _ _ _ _ r1 rr2 (Nat.le_refl _) hl2.out h4 hsum h9).mono ?_))
            rintro _ w2 ⟨v2, rfl, r2, b2⟩
            rw [HMG.out] at r2
            (go_wp2_with fail; (with_reducible refine (l2Fold_any (N : Int) _ (gpeaks pr M N l 0) _ _ r2.rv hgl hgd hN0).mono ?_); rintro _ _ ⟨rfl, rfl⟩)
            obtain ⟨gg, hgg⟩ : ∃ gg, foldD (N : Int) (gpeaks pr M N l 0) = gg := ⟨_, rfl⟩
            have HB2 : Hid (b = (gg == d)) := by have := HV.out; unfold gval at this; rw [hgg] at this; exact this
            rw [hgg]
            clear hgg
            go_wp2_with fail
            go_ret
            exact ⟨retB HB2.out.symm, bstep b1 b2⟩
        · have HF : Hid (b = false) := HB.out.symm.trans (gcheck_len hlen)
          have q1 : ((l.length : Int) == ((grow M N).length : Int)) = false := beq_eq_false_iff_ne.2 (by omega)
          have q2 : ((l.length : Int) != ((grow M N).length : Int)) = true := by rw [bne, q1]; rfl
          go_wp2_with fail
          go_ret
          exact ⟨retB HF.out.symm, b1⟩
end Go.Proofs.Ytpbdehncmincaaa
