/- The walks of the functions on bits: counting, wanting. -/
import Derived.Test.YtjmgkcmmhkpmhaaPush
import Derived.Test.YtjmgkcmmhkpmhaaPlainB
import Derived.LoopTactic
namespace Go.Proofs.Ytjmgkcmmhkpmhaa
set_option linter.unusedVariables false
open Go.RowKit

def ints (L : List Int) : List Value := L.map (Value.int .i64)
def bools (L : List Bool) : List Value := L.map Value.bool
theorem rv_at {w : World} {B n cap b off : Nat} {A : Option Addr} {L : List Value} {k : Nat} {u : Value} (hcell : ∀ i u, L[i]? = some u → w.cell? ⟨b, off + i, none⟩ = some u) (hk : L[k]? = some u) : w.cell? ⟨b, off + k, none⟩ = some u := hcell k u hk
theorem get_bool {L : List Bool} {k : Nat} (h : k < L.length) : ∃ x, L[k]? = some x ∧ (L.map Value.bool)[k]? = some (.bool x) := ⟨L[k], List.getElem?_eq_getElem h, by rw [List.getElem?_map, List.getElem?_eq_getElem h]; rfl⟩
theorem get_int {L : List Int} {k : Nat} (h : k < L.length) : ∃ x, L[k]? = some x ∧ (L.map (Value.int .i64))[k]? = some (.int .i64 x) := ⟨L[k], List.getElem?_eq_getElem h, by rw [List.getElem?_map, List.getElem?_eq_getElem h]; rfl⟩

set_option maxHeartbeats 1000000 in
theorem l4Count_any (v : Value) (L : List Bool) (B : Nat) (w : World) (h : RV w B v (L.map Value.bool)) (hn : L.length ≤ 1048576) :
    Calls Try.prog 45 #[v] w fun e w' => e = .returned (.int .i64 ((cnt L : Nat) : Int)) ∧ w = w' := by
  obtain ⟨A, cap, rfl, hl, hm, hc⟩ := h
  rw [List.length_map] at hl hc ⊢
  go_enter Try.func45, Try.ntmps45
  go_wp2
  go_loop [3, 4] (fun n i => ∃ k : Nat, k ≤ L.length ∧ i = .int .i64 k ∧ n = .int .i64 ((cnt (L.take k) : Nat) : Int)) (fun _ i => L.length - (intOf i).toNat)
  case atStart => exact ⟨0, Nat.zero_le _, rfl, rfl⟩
  case round =>
    obtain ⟨k, hk, rfl, rfl⟩ := hrel
    have b1 : cnt (L.take k) ≤ 1048576 := Nat.le_trans (cnt_le _) (by rw [List.length_take]; omega)
    by_cases hlt : k < L.length
    · obtain ⟨b, off, rfl, hbB, hcell⟩ := hc (by omega)
      obtain ⟨x, hx, hxv⟩ := get_bool hlt
      have hcx := hcell k _ hxv
      have HT := hid' (cnt_take hx)
      clear hcell hc hx hxv
      cases x
      · go_wp2
        go_round
        case rel => exact ⟨k + 1, by omega, by go_num, by rw [HT.out]; simp⟩
        case measure => simp [intOf]; omega
      · go_wp2
        go_round
        case rel => exact ⟨k + 1, by omega, by go_num, by rw [HT.out]; simp⟩
        case measure => simp [intOf]; omega
    · have hfin := hid' (show L.take k = L from List.take_of_length_le (by omega))
      clear hc
      go_wp2
      go_ret
      exact ⟨retI (by rw [hfin.out]), rfl⟩
theorem sBitsCount_any (v : Value) (L : List Bool) (B : Nat) (w : World) (h : RV w B v (L.map Value.bool)) (hn : L.length ≤ 1048576) :
    Calls Try.prog 17 #[v] w fun e w' => e = .returned (.int .i64 (bcount L)) ∧ w = w' := by
  have rr := h
  obtain ⟨A, cap, rfl, hl, hm, hc⟩ := h
  rw [List.length_map] at rr hl ⊢
  clear hc
  by_cases h16 : 16 < L.length
  · have H := hid' (show bcount L = -1 from if_neg (by omega))
    go_enter Try.func17, Try.ntmps17
    go_wp2_with fail
    go_ret
    exact ⟨retI H.out.symm, rfl⟩
  · have H := hid' (show bcount L = (cnt L : Int) from if_pos (by omega))
    go_enter Try.func17, Try.ntmps17
    (go_wp2_with fail; (with_reducible refine (l4Count_any _ L _ _ rr hn).mono ?_); rintro _ _ ⟨rfl, rfl⟩)
    go_wp2_with fail
    go_ret
    exact ⟨retI H.out.symm, rfl⟩
set_option maxHeartbeats 1000000 in
theorem iBitsCount_any (v : Value) (L : List Bool) (B : Nat) (w : World) (h : RV w B v (L.map Value.bool)) (hn : L.length ≤ 1048576) :
    Calls Try.prog 19 #[v] w fun e w' => e = .returned (.int .i64 (bcount L)) ∧ w = w' := by
  obtain ⟨A, cap, rfl, hl, hm, hc⟩ := h
  rw [List.length_map] at hl hc ⊢
  by_cases h16 : 16 < L.length
  · have H := hid' (show bcount L = -1 from if_neg (by omega))
    go_enter Try.func19, Try.ntmps19
    go_wp2_with fail
    go_ret
    exact ⟨retI H.out.symm, rfl⟩
  · have H := hid' (show bcount L = (cnt L : Int) from if_pos (by omega))
    go_enter Try.func19, Try.ntmps19
    go_wp2
    go_loop [3, 11] (fun n i => ∃ k : Nat, k ≤ L.length ∧ i = .int .i64 k ∧ n = .int .i64 ((cnt (L.take k) : Nat) : Int)) (fun _ i => L.length - (intOf i).toNat)
    case atStart => exact ⟨0, Nat.zero_le _, rfl, rfl⟩
    case round =>
      obtain ⟨k, hk, rfl, rfl⟩ := hrel
      have b1 : cnt (L.take k) ≤ 1048576 := Nat.le_trans (cnt_le _) (by rw [List.length_take]; omega)
      by_cases hlt : k < L.length
      · obtain ⟨b, off, rfl, hbB, hcell⟩ := hc (by omega)
        obtain ⟨x, hx, hxv⟩ := get_bool hlt
        have hcx := hcell k _ hxv
        have HT := hid' (cnt_take hx)
        clear hcell hc hx hxv
        cases x
        · go_wp2
          go_round
          case rel => exact ⟨k + 1, by omega, by go_num, by rw [HT.out]; simp⟩
          case measure => simp [intOf]; omega
        · go_wp2
          go_round
          case rel => exact ⟨k + 1, by omega, by go_num, by rw [HT.out]; simp⟩
          case measure => simp [intOf]; omega
      · have hfin := hid' (show L.take k = L from List.take_of_length_le (by omega))
        clear hc
        go_wp2
        go_ret
        exact ⟨retI (by rw [hfin.out, H.out]), rfl⟩
theorem has_any (v : Value) (L : List Bool) (B : Nat) (k : Nat) (w : World) (b : Bool) (h : RV w B v (L.map Value.bool)) (hn : L.length ≤ 1048576) (hb : L.getD k false = b) :
    Calls Try.prog 48 #[v, .int .i64 (k : Int)] w fun e w' => e = .returned (.bool b) ∧ w = w' := by
  obtain ⟨A, cap, rfl, hl, hm, hc⟩ := h
  rw [List.length_map] at hl hc ⊢
  by_cases hlt : k < L.length
  · obtain ⟨b', off, rfl, hbB, hcell⟩ := hc (by omega)
    obtain ⟨x, hx, hxv⟩ := get_bool hlt
    have hcx := hcell k _ hxv
    have HX : Hid (b = x) := by unfold Hid; rw [← hb, List.getD_eq_getElem?_getD, hx]; rfl
    clear hcell hc hx hxv hb
    go_enter Try.func48, Try.ntmps48
    go_wp2
    go_ret
    exact ⟨retB HX.out.symm, rfl⟩
  · have HX : Hid (b = false) := by unfold Hid; rw [← hb, List.getD_eq_getElem?_getD, List.getElem?_eq_none (by omega)]; rfl
    have hlt' : decide (k < L.length) = false := by simp; omega
    have hlt2 : decide ((k : Int) < (L.length : Int)) = false := by simp; omega
    clear hc hb
    go_enter Try.func48, Try.ntmps48
    go_wp2
    go_ret
    exact ⟨retB HX.out.symm, rfl⟩
theorem l4At_any (v : Value) (L : List Bool) (B : Nat) (k : Nat) (w : World) (b : Bool) (h : RV w B v (L.map Value.bool)) (hn : L.length ≤ 1048576) (hb : L.getD k false = b) :
    Calls Try.prog 49 #[v, .int .i64 (k : Int)] w fun e w' => e = .returned (.bool b) ∧ w = w' := by
  obtain ⟨A, cap, rfl, hl, hm, hc⟩ := h
  rw [List.length_map] at hl hc ⊢
  by_cases hlt : k < L.length
  · obtain ⟨b', off, rfl, hbB, hcell⟩ := hc (by omega)
    obtain ⟨x, hx, hxv⟩ := get_bool hlt
    have hcx := hcell k _ hxv
    have HX : Hid (b = x) := by unfold Hid; rw [← hb, List.getD_eq_getElem?_getD, hx]; rfl
    clear hcell hc hx hxv hb
    go_enter Try.func49, Try.ntmps49
    go_wp2
    go_ret
    exact ⟨retB HX.out.symm, rfl⟩
  · have HX : Hid (b = false) := by unfold Hid; rw [← hb, List.getD_eq_getElem?_getD, List.getElem?_eq_none (by omega)]; rfl
    have hlt' : decide (k < L.length) = false := by simp; omega
    have hlt2 : decide ((k : Int) < (L.length : Int)) = false := by simp; omega
    clear hc hb
    go_enter Try.func49, Try.ntmps49
    go_wp2
    go_ret
    exact ⟨retB HX.out.symm, rfl⟩
set_option maxHeartbeats 2000000 in
theorem iBitsWants_any (v v' : Value) (L M : List Bool) (w : World) (h : RV w w.heap.size v (L.map Value.bool)) (h' : RV w w.heap.size v' (M.map Value.bool)) (hn : L.length ≤ 1048576) (hn' : M.length ≤ 1048576) :
    Calls Try.prog 22 #[v, v'] w (NewRow w 3 ((wants L M).map (Value.int .i64))) := by
  have rr := h'
  obtain ⟨A, cap, rfl, hl, hm, hc⟩ := h
  obtain ⟨A', cap', rfl, hl', hm', hc'⟩ := h'
  rw [List.length_map] at rr hl hc hl' ⊢
  rw [List.length_map]
  clear hc'
  obtain ⟨i0, hi, hz0, hz1, hz2⟩ := info_parts infoInt
  rcases (show 16 < L.length ∨ (L.length ≤ 16 ∧ 16 < M.length) ∨ (L.length ≤ 16 ∧ M.length ≤ 16) by omega) with h1 | ⟨h1, h2⟩ | ⟨h1, h2⟩
  · have H := hid' (show wants L M = [] from if_neg (by omega))
    clear hc
    go_enter Try.func22, Try.ntmps22
    go_wp2_with fail
    go_ret
    exact newrow_of (by rw [H.out]; exact own_nil _ _ _) (Below.refl _ _)
  · have H := hid' (show wants L M = [] from if_neg (by omega))
    clear hc
    go_enter Try.func22, Try.ntmps22
    go_wp2_with fail
    go_ret
    exact newrow_of (by rw [H.out]; exact own_nil _ _ _) (Below.refl _ _)
  · have H := hid' (show wants L M = (wantsN L M L.length).map (fun n : Nat => (n : Int)) from if_pos ⟨h1, h2⟩)
    go_enter Try.func22, Try.ntmps22
    go_wp2
    go_loopw [5, 19] (fun v i wr => ∃ k : Nat, k ≤ L.length ∧ i = .int .i64 k ∧ OW wr w.heap.size 3 v (((wantsN L M k).map (fun n : Nat => (n : Int))).map (Value.int .i64)) ∧ Below w.heap.size w wr) (fun _ i _ => L.length - (intOf i).toNat)
    case atStart => exact ⟨0, Nat.zero_le _, rfl, own_empty (Nat.le_refl _), bnew w _⟩
    case round =>
      obtain ⟨k, hk, rfl, hown, hbel⟩ := hrel
      have hwl := wantsN_len L M k
      by_cases hlt : k < L.length
      · obtain ⟨b, off, rfl, hbB, hcell⟩ := hc (by omega)
        obtain ⟨x, hx, hxv⟩ := get_bool hlt
        have hcx : wr.cell? ⟨b, off + k, none⟩ = some (.bool x) := (hbel.cell (p := ⟨b, off + k, none⟩) (by show b < w.heap.size; omega)).trans (hcell k _ hxv)
        have HW := hid' (wantsN_succ L M k)
        have HX : Hid (L.getD k false = x) := by unfold Hid; rw [List.getD_eq_getElem?_getD, hx]; rfl
        clear hcell hc hx hxv
        cases x
        · have HE : Hid (wantsN L M (k + 1) = wantsN L M k) := by unfold Hid; rw [HW.out, HX.out]; simp
          go_wp2_with fail
          go_roundw
          case rel => exact ⟨k + 1, by omega, by go_num, by rw [HE.out]; exact hown, hbel⟩
          case measure => simp [intOf]; omega
        · cases hmk : M.getD k false
          · have HE : Hid (wantsN L M (k + 1) = wantsN L M k ++ [k]) := by unfold Hid; rw [HW.out, HX.out, hmk]; simp
            have HM := hid' hmk
            clear hmk
            go_wp2_with (first | (go_at_call 48; (with_reducible refine (has_any _ M _ k _ false (rr.below hbel (Nat.le_refl _)) hn' HM.out).mono ?_); rintro _ _ ⟨rfl, rfl⟩) | (at_builtin; refine wpList_push _ rfl _ _ 30 rfl w.heap.size 3 i0 (.int .i64 0) 8 Try.underlying30 hi hz0 hz1 hz2 rfl _ _ rfl hown _ rfl rfl (by rw [List.length_map, List.length_map]; omega) (by decide) hbel.size ?_; intro v' w1 hown1 hbel1))
            go_wp2_with fail
            go_roundw
            case rel => exact ⟨k + 1, by omega, by go_num, by rw [HE.out, List.map_append, List.map_append]; exact hown1, hbel.trans hbel1⟩
            case measure => simp [intOf]; omega
          · have HE : Hid (wantsN L M (k + 1) = wantsN L M k) := by unfold Hid; rw [HW.out, HX.out, hmk]; simp
            have HM := hid' hmk
            clear hmk
            (go_wp2_with fail; (with_reducible refine (has_any _ M _ k _ true (rr.below hbel (Nat.le_refl _)) hn' HM.out).mono ?_); rintro _ _ ⟨rfl, rfl⟩)
            go_wp2_with fail
            go_roundw
            case rel => exact ⟨k + 1, by omega, by go_num, by rw [HE.out]; exact hown, hbel⟩
            case measure => simp [intOf]; omega
      · have hkl : k = L.length := by omega
        subst hkl
        clear hc
        go_wp2_with fail
        go_ret
        exact newrow_of (by rw [H.out]; exact hown) hbel
set_option maxHeartbeats 2000000 in
theorem sBitsWants_any (v v' : Value) (L M : List Bool) (w : World) (h : RV w w.heap.size v (L.map Value.bool)) (h' : RV w w.heap.size v' (M.map Value.bool)) (hn : L.length ≤ 1048576) (hn' : M.length ≤ 1048576) :
    Calls Try.prog 23 #[v, v'] w (NewRow w 3 ((wants L M).map (Value.int .i64))) := by
  have rr := h'
  obtain ⟨A, cap, rfl, hl, hm, hc⟩ := h
  obtain ⟨A', cap', rfl, hl', hm', hc'⟩ := h'
  rw [List.length_map] at rr hl hc hl' ⊢
  rw [List.length_map]
  clear hc'
  obtain ⟨i0, hi, hz0, hz1, hz2⟩ := info_parts infoInt
  rcases (show 16 < L.length ∨ (L.length ≤ 16 ∧ 16 < M.length) ∨ (L.length ≤ 16 ∧ M.length ≤ 16) by omega) with h1 | ⟨h1, h2⟩ | ⟨h1, h2⟩
  · have H := hid' (show wants L M = [] from if_neg (by omega))
    clear hc
    go_enter Try.func23, Try.ntmps23
    go_wp2_with fail
    refine wp_loop_rounds 1 ?_
    rw [rounds_succ]
    go_wp2_with fail
    all_goals
      go_ret
      exact newrow_of (by rw [H.out]; exact own_empty (Nat.le_refl _)) (bnew w _)
  · have H := hid' (show wants L M = [] from if_neg (by omega))
    clear hc
    go_enter Try.func23, Try.ntmps23
    go_wp2_with fail
    refine wp_loop_rounds 1 ?_
    rw [rounds_succ]
    go_wp2_with fail
    all_goals
      go_ret
      exact newrow_of (by rw [H.out]; exact own_empty (Nat.le_refl _)) (bnew w _)
  · have H := hid' (show wants L M = (wantsN L M L.length).map (fun n : Nat => (n : Int)) from if_pos ⟨h1, h2⟩)
    go_enter Try.func23, Try.ntmps23
    go_wp2
    go_loopw [5, 6] (fun v i wr => ∃ k : Nat, k ≤ L.length ∧ i = .int .i64 k ∧ OW wr w.heap.size 3 v (((wantsN L M k).map (fun n : Nat => (n : Int))).map (Value.int .i64)) ∧ Below w.heap.size w wr) (fun _ i _ => L.length - (intOf i).toNat)
    case atStart => exact ⟨0, Nat.zero_le _, rfl, own_empty (Nat.le_refl _), bnew w _⟩
    case round =>
      obtain ⟨k, hk, rfl, hown, hbel⟩ := hrel
      have hwl := wantsN_len L M k
      by_cases hlt : k < L.length
      · obtain ⟨b, off, rfl, hbB, hcell⟩ := hc (by omega)
        obtain ⟨x, hx, hxv⟩ := get_bool hlt
        have hcx : wr.cell? ⟨b, off + k, none⟩ = some (.bool x) := (hbel.cell (p := ⟨b, off + k, none⟩) (by show b < w.heap.size; omega)).trans (hcell k _ hxv)
        have HW := hid' (wantsN_succ L M k)
        have HX : Hid (L.getD k false = x) := by unfold Hid; rw [List.getD_eq_getElem?_getD, hx]; rfl
        clear hcell hc hx hxv
        cases x
        · have HE : Hid (wantsN L M (k + 1) = wantsN L M k) := by unfold Hid; rw [HW.out, HX.out]; simp
          go_wp2_with fail
          go_roundw
          case rel => exact ⟨k + 1, by omega, by go_num, by rw [HE.out]; exact hown, hbel⟩
          case measure => simp [intOf]; omega
        · cases hmk : M.getD k false
          · have HE : Hid (wantsN L M (k + 1) = wantsN L M k ++ [k]) := by unfold Hid; rw [HW.out, HX.out, hmk]; simp
            have HM := hid' hmk
            clear hmk
            go_wp2_with (first | (go_at_call 49; (with_reducible refine (l4At_any _ M _ k _ false (rr.below hbel (Nat.le_refl _)) hn' HM.out).mono ?_); rintro _ _ ⟨rfl, rfl⟩) | (at_builtin; refine wpList_push _ rfl _ _ 30 rfl w.heap.size 3 i0 (.int .i64 0) 8 Try.underlying30 hi hz0 hz1 hz2 rfl _ _ rfl hown _ rfl rfl (by rw [List.length_map, List.length_map]; omega) (by decide) hbel.size ?_; intro v' w1 hown1 hbel1))
            go_wp2_with fail
            go_roundw
            case rel => exact ⟨k + 1, by omega, by go_num, by rw [HE.out, List.map_append, List.map_append]; exact hown1, hbel.trans hbel1⟩
            case measure => simp [intOf]; omega
          · have HE : Hid (wantsN L M (k + 1) = wantsN L M k) := by unfold Hid; rw [HW.out, HX.out, hmk]; simp
            have HM := hid' hmk
            clear hmk
            (go_wp2_with fail; (with_reducible refine (l4At_any _ M _ k _ true (rr.below hbel (Nat.le_refl _)) hn' HM.out).mono ?_); rintro _ _ ⟨rfl, rfl⟩)
            go_wp2_with fail
            go_roundw
            case rel => exact ⟨k + 1, by omega, by go_num, by rw [HE.out]; exact hown, hbel⟩
            case measure => simp [intOf]; omega
      · have hkl : k = L.length := by omega
        subst hkl
        clear hc
        go_wp2_with fail
        go_ret
        exact newrow_of (by rw [H.out]; exact hown) hbel
end Go.Proofs.Ytjmgkcmmhkpmhaa
