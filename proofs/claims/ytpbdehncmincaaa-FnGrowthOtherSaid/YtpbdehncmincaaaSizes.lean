/- The walks of the reference's check of growth. -/
import Derived.Test.YtpbdehncmincaaaMerge
namespace Go.Proofs.Ytpbdehncmincaaa
set_option linter.unusedVariables false
open Go.RowKit
theorem grow_sum (m n : Nat) (hn : n ≤ 16) (hm : m ≤ n) : (((grow m n).map (·.2)).map (2 ^ ·)).sum ≤ 16 := by
  have T : ∀ n : Fin 17, ∀ m : Fin 17, m.1 ≤ n.1 → (((grow m.1 n.1).map (·.2)).map (2 ^ ·)).sum ≤ 16 := by decide +kernel
  exact T ⟨n, by omega⟩ ⟨m, by omega⟩ hm
def szF (D : List (Nat × Nat)) : List Int := (D.map (·.2)).map fun h => ((2 ^ h : Nat) : Int)
theorem szF_app (D E : List (Nat × Nat)) : szF (D ++ E) = szF D ++ szF E := by unfold szF; rw [List.map_append, List.map_append]
theorem szF_len (D : List (Nat × Nat)) : (szF D).length = D.length := by unfold szF; rw [List.length_map, List.length_map]
theorem szF_snoc (D : List (Nat × Nat)) (t : Nat × Nat) : szF (D ++ [t]) = szF D ++ [((2 ^ t.2 : Nat) : Int)] := szF_app D [t]
def SzR (m : Nat) (D0 : List (Nat × Nat)) (a : Nat) (w : World) (o k : Value) (wr : World) : Prop :=
  ∃ (c f : Nat) (D : List (Nat × Nat)), c ≤ 16 ∧ m ≤ c + f ∧ D.length + f ≤ 16 ∧ k = .int .i64 c ∧ Hid (D ++ trF f c m = tr a m) ∧ OW wr w.heap.size 3 o ((szF (D0 ++ D)).map (Value.int .i64)) ∧ Below w.heap.size w wr
set_option maxHeartbeats 8000000 in
theorem l2Sizes_any (m n : Nat) (w : World) (hmn : m ≤ n) (h16 : n ≤ 16) :
    Calls Try.prog 36 #[.int .i64 (m : Int), .int .i64 (n : Int)] w fun e w' => ∃ v, e = .returned (.tuple #[v, .int .i64 ((tr 0 m).length : Nat)]) ∧ OW w' w.heap.size 3 v ((szF (grow m n)).map (Value.int .i64)) ∧ Below w.heap.size w w' := by
  obtain ⟨j0, ji, jz0, jz1, jz2⟩ := info_parts infoInt
  have hm16 : m ≤ 16 := by omega
  have l1 := (tr_all 0 m (by omega) hm16).1
  go_enter Try.func36, Try.ntmps36
  go_wp2_with fail
  go_loopw [6, 7] (fun o k wr => SzR m [] 0 w o k wr) (fun _ x _ => 16 - (intOf x).toNat)
  case atStart => exact show SzR _ _ _ _ _ _ _ from ⟨0, 16, [], by omega, by omega, by simp, rfl, rfl, own_empty (Nat.le_refl _), bnew w _⟩
  case round =>
    obtain ⟨c, f, D, hcc, hf, hDf, rfl, hD, hown, hbel⟩ := hrel
    by_cases hlt : c < m
    · have hend := ht_end c m hlt hm16
      have hpos : 0 < (2 : Nat) ^ ht c m := Nat.pow_pos (by decide)
      obtain ⟨s, hs⟩ : ∃ s : Nat, s = 2 ^ ht c m := ⟨_, rfl⟩
      rw [← hs] at hend hpos
      have HSZ : Hid (szI c m = (s : Int)) := by unfold Hid szI; rw [hs]
      have HS := hid' hs
      have HT : Hid ((D ++ [(c, ht c m)]) ++ trF (f - 1) (c + s) m = tr 0 m) := by
        have h := hD.out
        rw [show f = (f - 1) + 1 by omega, trF_yes hlt] at h
        unfold Hid; rw [← h, List.append_assoc, hs]; rfl
      have hlen : ((szF ([] ++ D)).map (Value.int .i64)).length ≤ 64 := by rw [List.length_map, szF_len, List.nil_append]; omega
      obtain ⟨A, cap, rfl⟩ := own_shape hown
      rw [szF_len] at hown ⊢
      clear hs
      (go_wp2_with fail; (with_reducible refine (l2Size_any c m _ hcc hm16).mono ?_); rintro _ _ ⟨rfl, rfl⟩)
      rw [HSZ.out]
      go_wp2_with (at_builtin; refine wpList_push _ rfl _ _ 22 rfl w.heap.size 3 j0 (.int .i64 0) 8 Try.underlying22 ji jz0 jz1 jz2 rfl _ _ rfl hown _ rfl rfl (by omega) (by decide) hbel.size ?_; intro v' w3 hown3 hbel3)
      (with_reducible refine (l2Size_any c m _ hcc hm16).mono ?_)
      rintro _ _ ⟨rfl, rfl⟩
      rw [HSZ.out]
      go_wp2_with fail
      go_roundw
      case rel => exact show SzR _ _ _ _ _ _ _ from ⟨c + s, f - 1, D ++ [(c, ht c m)], by omega, by omega, by simp; omega, by go_num, HT, by rw [← List.append_assoc, szF_snoc, List.map_append, ← HS.out]; exact hown3, hbel.trans hbel3⟩
      case measure => simp [intOf]; omega
    · have HF : Hid (D = tr 0 m) := by have := hD.out; rw [trF_no (by omega), List.append_nil] at this; exact this
      obtain ⟨A, cap, rfl⟩ := own_shape hown
      rw [szF_len, List.nil_append, HF.out] at hown
      rw [szF_len, List.nil_append, HF.out]
      go_wp2_with fail
      go_loopw [6, 9] (fun o k wr => SzR n (tr 0 m) m w o k wr) (fun _ x _ => 16 - (intOf x).toNat)
      case atStart => exact show SzR _ _ _ _ _ _ _ from ⟨m, 16, [], by omega, by omega, by simp, rfl, rfl, by rw [List.append_nil]; exact hown, hbel⟩
      case round =>
        obtain ⟨c2, f2, D2, hcc2, hf2, hDf2, rfl, hD2, hown2, hbel2⟩ := hrel
        by_cases hlt2 : c2 < n
        · have hend := ht_end c2 n hlt2 h16
          have hpos : 0 < (2 : Nat) ^ ht c2 n := Nat.pow_pos (by decide)
          obtain ⟨s, hs⟩ : ∃ s : Nat, s = 2 ^ ht c2 n := ⟨_, rfl⟩
          rw [← hs] at hend hpos
          have HSZ : Hid (szI c2 n = (s : Int)) := by unfold Hid szI; rw [hs]
          have HS := hid' hs
          have HT : Hid ((D2 ++ [(c2, ht c2 n)]) ++ trF (f2 - 1) (c2 + s) n = tr m n) := by
            have h := hD2.out
            rw [show f2 = (f2 - 1) + 1 by omega, trF_yes hlt2] at h
            unfold Hid; rw [← h, List.append_assoc, hs]; rfl
          have hlen : ((szF (tr 0 m ++ D2)).map (Value.int .i64)).length ≤ 64 := by rw [List.length_map, szF_len, List.length_append]; omega
          obtain ⟨A2, cap2, rfl⟩ := own_shape hown2
          rw [szF_len, List.length_append] at hown2 ⊢
          clear hs
          (go_wp2_with fail; (with_reducible refine (l2Size_any c2 n _ hcc2 h16).mono ?_); rintro _ _ ⟨rfl, rfl⟩)
          rw [HSZ.out]
          go_wp2_with (at_builtin; refine wpList_push _ rfl _ _ 22 rfl w.heap.size 3 j0 (.int .i64 0) 8 Try.underlying22 ji jz0 jz1 jz2 rfl _ _ rfl hown2 _ rfl rfl (by omega) (by decide) hbel2.size ?_; intro v' w3 hown3 hbel3)
          (with_reducible refine (l2Size_any c2 n _ hcc2 h16).mono ?_)
          rintro _ _ ⟨rfl, rfl⟩
          rw [HSZ.out]
          go_wp2_with fail
          go_roundw
          case rel => exact show SzR _ _ _ _ _ _ _ from ⟨c2 + s, f2 - 1, D2 ++ [(c2, ht c2 n)], by omega, by omega, by simp; omega, by go_num, HT, by rw [← List.append_assoc, szF_snoc, List.map_append, ← HS.out]; exact hown3, hbel2.trans hbel3⟩
          case measure => simp [intOf]; omega
        · have HF2 : Hid (D2 = tr m n) := by have := hD2.out; rw [trF_no (by omega), List.append_nil] at this; exact this
          rw [HF2.out] at hown2
          go_wp2_with fail
          go_ret2
          exact ⟨_, rfl, hown2, hbel2⟩
end Go.Proofs.Ytpbdehncmincaaa
