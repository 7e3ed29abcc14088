/- The walks of the functions on trees: validity, roots. -/
import Derived.Test.YtcocknfdafmfnaaPush
import Derived.Test.YtcocknfdafmfnaaTree
import Derived.Deep.RegionHeld3
namespace Go.Proofs.Ytcocknfdafmfnaa
set_option linter.unusedVariables false
open Go.RowKit

def ints (L : List Int) : List Value := L.map (Value.int .i64)
theorem get_int {L : List Int} {k : Nat} (h : k < L.length) : ∃ x, L[k]? = some x ∧ (L.map (Value.int .i64))[k]? = some (.int .i64 x) := ⟨L[k], List.getElem?_eq_getElem h, by rw [List.getElem?_map, List.getElem?_eq_getElem h]; rfl⟩
theorem digs_snoc {L : List Int} {k : Nat} {x : Int} (h : L[k]? = some x) : digs (L.take (k + 1)) = (digs (L.take k) && digB x) := by
  have hlt : k < L.length := by
    rcases Nat.lt_or_ge k L.length with h' | h'
    · exact h'
    · rw [List.getElem?_eq_none h'] at h; cases h
  rw [List.getElem?_eq_getElem hlt] at h
  simp only [Option.some.injEq] at h
  rw [List.take_succ_eq_append_getElem hlt, h]
  unfold digs; rw [List.all_append]; simp
theorem digs_bad {L : List Int} {k : Nat} {x : Int} (h : L[k]? = some x) (hx : digB x = false) : digs L = false := by
  unfold digs
  rw [List.all_eq_false]
  exact ⟨x, List.mem_of_getElem? h, by rw [hx]; simp⟩
theorem digs_get {L : List Int} {k : Nat} {x : Int} (h : L[k]? = some x) (hd : digs L = true) : digB x = true := by
  unfold digs at hd
  exact List.all_eq_true.1 hd x (List.mem_of_getElem? h)
theorem lf_get {L : List Int} {k : Nat} {x : Int} (h : L[k]? = some x) : lf L k = x := by unfold lf; rw [List.getD_eq_getElem?_getD, h]; rfl
theorem rt_dig {L : List Int} (hd : digs L = true) : ∀ (h a : Nat), a + 2 ^ h ≤ L.length → digB (rt pr (lf L) h a) = true
  | 0, a, hl => by
    have : L[a]? = some L[a] := List.getElem?_eq_getElem (by simp at hl; omega)
    show digB (lf L a) = true
    rw [lf_get this]; exact digs_get this hd
  | h + 1, a, _ => pr_dig _ _

set_option maxHeartbeats 1000000 in
theorem l2Leaves_b (v : Value) (L : List Int) (B : Nat) (w : World) (b : Bool) (h : RV w B v (L.map (Value.int .i64))) (hn : L.length ≤ 1048576) (hb : leavesB L = b) :
    Calls Try.prog 49 #[v] w fun e w' => e = .returned (.bool b) ∧ w = w' := by
  obtain ⟨A, cap, rfl, hl, hm, hc⟩ := h
  rw [List.length_map] at hl hc ⊢
  have HB := hid' hb
  clear hb
  go_enter Try.func49, Try.ntmps49
  go_wp2_with fail
  go_loop [3] (fun i => ∃ k : Nat, k ≤ L.length ∧ i = .int .i64 k ∧ Hid (digs (L.take k) = true)) (fun i => L.length - (intOf i).toNat)
  case atStart => exact ⟨0, Nat.zero_le _, rfl, rfl⟩
  case round =>
    obtain ⟨k, hk, rfl, hpre⟩ := hrel
    by_cases hlt : k < L.length
    · obtain ⟨b', off, rfl, hbB, hcell⟩ := hc (by omega)
      obtain ⟨x, hx, hxv⟩ := get_int hlt
      have hcx := hcell k _ hxv
      have HX := hid' hx
      clear hcell hc hx hxv
      cases hd : digB x
      · have HF : Hid (b = false) := by rw [← HB.out]; unfold Hid leavesB; rw [digs_bad HX.out hd, Bool.and_false]
        (go_wp2_with fail; (with_reducible refine (l1Digest_b x false _ hd).mono ?_); rintro _ _ ⟨rfl, rfl⟩)
        go_wp2_with fail
        go_ret
        exact ⟨retB HF.out.symm, rfl⟩
      · have HP : Hid (digs (L.take (k + 1)) = true) := by unfold Hid; rw [digs_snoc HX.out, hpre.out, hd]; rfl
        (go_wp2_with fail; (with_reducible refine (l1Digest_b x true _ hd).mono ?_); rintro _ _ ⟨rfl, rfl⟩)
        go_wp2_with fail
        go_round
        case rel => exact ⟨k + 1, by omega, by go_num, HP⟩
        case measure => simp [intOf]; omega
    · have HF : Hid (b = decide ((L.length : Int) ≤ 16)) := by
        have e := hpre.out
        rw [List.take_of_length_le (by omega)] at e
        rw [← HB.out]; unfold Hid leavesB; rw [e, Bool.and_true, Bool.eq_iff_iff, decide_eq_true_iff, decide_eq_true_iff]; omega
      clear hc
      go_wp2_with fail
      go_ret
      exact ⟨retB HF.out.symm, rfl⟩
end Go.Proofs.Ytcocknfdafmfnaa
