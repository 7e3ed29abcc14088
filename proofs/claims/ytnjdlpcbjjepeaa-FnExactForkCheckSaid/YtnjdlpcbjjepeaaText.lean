/- The walks of the functions on texts. -/
import Derived.Test.YtnjdlpcbjjepeaaNum
import Derived.LoopTactic
namespace Go.Proofs.Ytnjdlpcbjjepeaa
set_option linter.unusedVariables false
open Go.RowKit

theorem take_snoc (s : ByteArray) (k : Nat) (h : k < s.size) : s.data.toList.take (k + 1) = s.data.toList.take k ++ [s[k]] := by
  rw [List.take_succ_eq_append_getElem (by simpa using h)]; rfl
theorem dtext_ok {s : ByteArray} (h : s.size ≤ 8) : dtext s.data.toList = txt s.data.toList := if_pos (by simpa using h)
theorem dtext_bad {s : ByteArray} (h : 8 < s.size) : dtext s.data.toList = -1 := if_neg (by simp; exact h)

set_option maxHeartbeats 400000 in
theorem l1Text_any (s : ByteArray) (w : World) (hs : s.size ≤ 1048576) : Calls Try.prog 33 #[.string s] w fun e w' => e = .returned (.int .i64 (txt s.data.toList)) ∧ w = w' := by
  go_enter Try.func33, Try.ntmps33
  go_wp2
  go_loop [3, 4] (fun n i => ∃ k : Nat, k ≤ s.size ∧ i = .int .i64 k ∧ n = .int .i64 (txt (s.data.toList.take k))) (fun _ i => s.size - (intOf i).toNat)
  case atStart => exact ⟨0, Nat.zero_le _, rfl, rfl⟩
  case round =>
    obtain ⟨k, hk, rfl, rfl⟩ := hrel
    obtain ⟨b0, b1⟩ := txt_bd (s.data.toList.take k)
    by_cases hlt : k < s.size
    · have HS : Hid (txt (s.data.toList.take (k + 1)) = step (txt (s.data.toList.take k)) (s[k].toNat : Int)) := by unfold Hid; rw [take_snoc s k hlt, txt_snoc]
      have c1 : (s[k].toNat : Int) ≤ 255 := by have := (s[k]).toNat_lt; omega
      go_wp2
      go_round
      case rel => exact ⟨k + 1, by omega, by go_num, by rw [HS.out]; rfl⟩
      case measure => simp [intOf]; omega
    · have HE : Hid (txt (s.data.toList.take k) = txt s.data.toList) := by unfold Hid; rw [List.take_of_length_le (by simp; omega)]
      go_wp2
      go_ret
      exact ⟨retI HE.out, rfl⟩
theorem sDigestText_any (s : ByteArray) (w : World) (hs : s.size ≤ 1048576) : Calls Try.prog 17 #[.string s] w fun e w' => e = .returned (.int .i64 (dtext s.data.toList)) ∧ w = w' := by
  by_cases h : 8 < s.size
  · have H := hid' (dtext_bad h)
    go_enter Try.func17, Try.ntmps17
    go_wp2_with fail
    go_ret
    exact ⟨retI H.out.symm, rfl⟩
  · have H := hid' (dtext_ok (s := s) (by omega))
    go_enter Try.func17, Try.ntmps17
    (go_wp2_with fail; (with_reducible refine (l1Text_any s _ hs).mono ?_); rintro _ _ ⟨rfl, rfl⟩)
    go_wp2_with fail
    go_ret
    exact ⟨retI H.out.symm, rfl⟩
set_option maxHeartbeats 400000 in
theorem iDigestText_any (s : ByteArray) (w : World) (hs : s.size ≤ 1048576) : Calls Try.prog 18 #[.string s] w fun e w' => e = .returned (.int .i64 (dtext s.data.toList)) ∧ w = w' := by
  by_cases h : 8 < s.size
  · have H := hid' (dtext_bad h)
    go_enter Try.func18, Try.ntmps18
    go_wp2_with fail
    go_ret
    exact ⟨retI H.out.symm, rfl⟩
  · have H := hid' (dtext_ok (s := s) (by omega))
    go_enter Try.func18, Try.ntmps18
    go_wp2
    go_loop [3, 4] (fun n i => ∃ k : Nat, k ≤ s.size ∧ i = .int .i64 k ∧ n = .int .i64 (txt (s.data.toList.take k))) (fun _ i => s.size - (intOf i).toNat)
    case atStart => exact ⟨0, Nat.zero_le _, rfl, rfl⟩
    case round =>
      obtain ⟨k, hk, rfl, rfl⟩ := hrel
      obtain ⟨b0, b1⟩ := txt_bd (s.data.toList.take k)
      by_cases hlt : k < s.size
      · have HS : Hid (txt (s.data.toList.take (k + 1)) = step (txt (s.data.toList.take k)) (s[k].toNat : Int)) := by unfold Hid; rw [take_snoc s k hlt, txt_snoc]
        have c1 : (s[k].toNat : Int) ≤ 255 := by have := (s[k]).toNat_lt; omega
        go_wp2
        go_round
        case rel => exact ⟨k + 1, by omega, by go_num, by rw [HS.out]; rfl⟩
        case measure => simp [intOf]; omega
      · have HE : Hid (txt (s.data.toList.take k) = txt s.data.toList) := by unfold Hid; rw [List.take_of_length_le (by simp; omega)]
        go_wp2
        go_ret
        exact ⟨retI (HE.out.trans H.out.symm), rfl⟩
end Go.Proofs.Ytnjdlpcbjjepeaa
