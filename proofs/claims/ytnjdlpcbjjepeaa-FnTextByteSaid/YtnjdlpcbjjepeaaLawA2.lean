/- The law on a changed byte. -/
import Derived.Test.YtnjdlpcbjjepeaaLawA
import Derived.RegionTactic
import Derived.Laws.BitsAllLaws
namespace Go.Proofs.Ytnjdlpcbjjepeaa
set_option linter.unusedVariables false
open Go.RowKit

theorem xor_byte (a d : Int) (a0 : 0 ≤ a) (a1 : a ≤ 255) (d0 : 1 ≤ d) (d1 : d ≤ 3) (c : Int) (h : bits .xor .u8 a d = c) : 0 ≤ c ∧ c ≤ 255 ∧ c ≠ a := by
  rw [u8_xor a d a0 (by omega) (by omega) (by omega)] at h
  have h3 : a.toNat ^^^ d.toNat < 2 ^ 8 := Nat.xor_lt_two_pow (by omega) (by omega)
  refine ⟨by omega, by omega, fun e => ?_⟩
  have e2 : a.toNat ^^^ d.toNat = a.toNat := by omega
  have e3 : d.toNat = 0 := by
    have := congrArg (fun z => a.toNat ^^^ z) e2
    simpa [← Nat.xor_assoc] using this
  omega

set_option maxHeartbeats 1000000 in
theorem walk_FnTextByte (v0 : Value) (L0 : List Int) (v1 : Value) (L1 : List Int) (w : World) (r0 : RV w w.heap.size v0 (L0.map (Value.int .u8))) (b0 : ∀ n ∈ L0, (Lit.int .u8 n).wf = true) (r1 : RV w w.heap.size v1 (L1.map (Value.int .u8))) (_b1 : ∀ n ∈ L1, (Lit.int .u8 n).wf = true) :
    Calls Try.prog 11 #[v0, v1] w fun e w' => e = .returned (.bool true) ∧ Below w.heap.size w w' := by
  have rr0 := r0
  obtain ⟨A0, cap0, rfl, hl0, hm0, hc0⟩ := r0
  obtain ⟨A1, cap1, rfl, hl1, hm1, hc1⟩ := r1
  rw [List.length_map] at rr0 hl0 hl1 ⊢
  rw [List.length_map]
  clear hc0 hc1
  unfold maxLen at hm0 hm1
  obtain ⟨M, hM⟩ : ∃ M, M = L1.length := ⟨_, rfl⟩
  rw [← hM] at hl1 ⊢
  clear hM
  rcases small_cases L0.length M with hb | hb | ⟨hb0, hb1⟩
  · go_enter Try.func11, Try.ntmps11
    go_wp2_with fail
    go_ret
    exact ⟨rfl, Below.refl _ _⟩
  · go_enter Try.func11, Try.ntmps11
    go_wp2_with fail
    go_ret
    exact ⟨rfl, Below.refl _ _⟩
  · go_enter Try.func11, Try.ntmps11
    (go_wp2_with fail; (with_reducible refine (DrawDigestText_any _ L0 _ rr0 b0).mono ?_))
    rintro _ w1 ⟨v, rfl, k1, s, rfl, hs⟩
    rcases (show 8 < s.size ∨ s.size = 0 ∨ (0 < s.size ∧ s.size ≤ 8) by omega) with h8 | h8 | ⟨hp, h8⟩
    · have hd := dtext_bad h8
      (go_wp2_with fail; (with_reducible refine (iDigestText_any s _ (by omega)).mono ?_); rintro _ _ ⟨rfl, rfl⟩)
      (go_wp2_with fail; (with_reducible refine (sDigestText_any s _ (by omega)).mono ?_); rintro _ _ ⟨rfl, rfl⟩)
      go_wp2_with fail
      go_ret
      exact ⟨rfl, k1⟩
    · have hd := dtext_ok (s := s) (by omega)
      obtain ⟨t0, t1⟩ := txt_bd s.data.toList
      have he : s.toList = [] := by rw [ByteArray.toList_eq, List.eq_nil_iff_length_eq_zero]; simpa using h8
      (go_wp2_with fail; (with_reducible refine (iDigestText_any s _ (by omega)).mono ?_); rintro _ _ ⟨rfl, rfl⟩)
      (go_wp2_with fail; (with_reducible refine (sDigestText_any s _ (by omega)).mono ?_); rintro _ _ ⟨rfl, rfl⟩)
      go_wp2_with fail
      go_ret
      exact ⟨rfl, k1⟩
    · have hd := dtext_ok (s := s) h8
      obtain ⟨t0, t1⟩ := txt_bd s.data.toList
      have t1' : txt s.data.toList < 991 := by omega
      have hne : s.toList.isEmpty = false := by
        cases h : s.toList with
        | nil => have := congrArg List.length h; rw [ByteArray.toList_eq] at this; simp at this; rw [this] at hp; exact absurd hp (by decide)
        | cons _ _ => rfl
      have hne2 : (s.toList == []) = false := by
        cases h : s.toList with
        | nil => rw [h] at hne; cases hne
        | cons _ _ => rfl
      obtain ⟨j, hj⟩ : ∃ j, M % s.size = j := ⟨_, rfl⟩
      have hjs : j < s.size := by rw [← hj]; exact Nat.mod_lt _ hp
      have hj' : (M : Int) % (s.size : Int) = (j : Int) := by rw [← hj]; rfl
      have hj2 : (M : Int).tmod (s.size : Int) = (j : Int) := by rw [Int.tmod_eq_emod_of_nonneg (Int.natCast_nonneg _)]; exact hj'
      have hs0 : ((s.size : Int) == 0) = false := beq_eq_false_iff_ne.2 (by omega)
      clear hj
      obtain ⟨d, hdd⟩ : ∃ d : Int, 1 + (M : Int) % 3 = d := ⟨_, rfl⟩
      have d0 : 1 ≤ d := by omega
      have d1 : d ≤ 3 := by omega
      have a1 : (s[j].toNat : Int) ≤ 255 := by have := (s[j]).toNat_lt; omega
      obtain ⟨c, hc⟩ : ∃ c : Int, bits .xor .u8 (s[j].toNat : Int) d = c := ⟨_, rfl⟩
      obtain ⟨c0, c1, cne⟩ := xor_byte (s[j].toNat : Int) d (by omega) a1 d0 d1 c hc
      obtain ⟨t, ⟨ht, htl⟩, hconv⟩ := conv_one (w1.alloc (.cells #[.int .u8 c] 5)).drew c c0 c1 w1.heap.size ((cell_of_row _ _ 0 _ _ _ (heap_alloc_new w1 _)).trans rfl)
      have hadd : ∀ W, (Op.stringOp .add (s.extract 0 j) t).run Try.prog W = .ok (.string (s.extract 0 j ++ t)) W := fun W => run_string_add_sum W _ t (by rw [ByteArray.size_extract]; omega)
      have hadd2 : ∀ W, (Op.stringOp .add (s.extract 0 j ++ t) (s.extract (j + 1) s.size)).run Try.prog W = .ok (.string (s.extract 0 j ++ t ++ s.extract (j + 1) s.size)) W := fun W => run_string_add_sum W _ _ (by rw [ByteArray.size_append, ByteArray.size_extract, ByteArray.size_extract]; omega)
      have HS : Hid ((s.extract 0 j ++ t ++ s.extract (j + 1) s.size).size ≤ 8) := by unfold Hid; rw [ByteArray.size_append, ByteArray.size_append, ByteArray.size_extract, ByteArray.size_extract]; omega
      have HN : Hid ((dtext (s.extract 0 j ++ t ++ s.extract (j + 1) s.size).data.toList != txt s.data.toList) = true) := by
        unfold Hid
        rw [dtext_ok HS.out, bne_iff_ne, ByteArray.data_append, ByteArray.data_append, Array.toList_append, Array.toList_append, ByteArray.data_extract, ByteArray.data_extract, Array.toList_extract, Array.toList_extract, htl]
        have e1 : s.data.toList = s.data.toList.take j ++ s[j] :: s.data.toList.drop (j + 1) := by
          have h1 : j < s.data.toList.length := by simpa using hjs
          have h2 : s.data.toList[j] = s[j] := rfl
          rw [← h2, ← List.drop_eq_getElem_cons h1, List.take_append_drop]
        have e2 : (s.data.toList.extract 0 j ++ [UInt8.ofNat c.toNat]) ++ s.data.toList.extract (j + 1) s.size = s.data.toList.take j ++ UInt8.ofNat c.toNat :: s.data.toList.drop (j + 1) := by
          rw [List.append_assoc, List.singleton_append, List.extract_eq_take_drop, List.extract_eq_take_drop, List.drop_zero, Nat.sub_zero]
          congr 2
          exact List.take_of_length_le (by simp)
        rw [e2]
        intro h
        refine txt_change (s.data.toList.take j) (s.data.toList.drop (j + 1)) s[j] (UInt8.ofNat c.toNat) ?_ (h.trans (congrArg txt e1))
        intro e
        have := congrArg (fun z : UInt8 => (z.toNat : Int)) e
        simp only [byte_of c c0 c1] at this
        exact cne this
      have HS8 : Hid ((s.extract 0 j ++ t ++ s.extract (j + 1) s.size).size ≤ 1048576) := by have := HS.out; unfold Hid; omega
      obtain ⟨T, hT⟩ : ∃ T, T = s.extract 0 j ++ t ++ s.extract (j + 1) s.size := ⟨_, rfl⟩
      rw [← hT] at HN HS8 hadd2
      clear ht htl cne HS hT
      have t1b : decide (txt s.data.toList < 991) = true := by simpa using t1'
      (go_wp2_with fail; (with_reducible refine (iDigestText_any s _ (by omega)).mono ?_); rintro _ _ ⟨rfl, rfl⟩)
      (go_wp2_with fail; (with_reducible refine (sDigestText_any s _ (by omega)).mono ?_); rintro _ _ ⟨rfl, rfl⟩)
      go_wp2_with fail
      go_region
      (go_wp2_with fail; (with_reducible refine (iDigestText_any _ _ HS8.out).mono ?_); rintro _ _ ⟨rfl, rfl⟩)
      have HN' := HN.out
      have HN2 := beq_eq_false_iff_ne.2 (bne_iff_ne.1 HN.out)
      go_wp2_with fail
      go_ret
      exact ⟨rfl, (balloc k1 _).drew⟩
end Go.Proofs.Ytnjdlpcbjjepeaa
