/- The walks of the functions on runs. -/
import Derived.Test.YtjmgkcmmhkpmhaaBits
namespace Go.Proofs.Ytjmgkcmmhkpmhaa
set_option linter.unusedVariables false
open Go.RowKit

theorem own_last {w : World} {base N : Nat} {e : TypeId} {v u : Value} {L : List Value} (h : OW w base e v (L ++ [u])) (hN : L.length = N) :
    ∃ g cap, v = .slice (some ⟨g, 0, none⟩) (N + 1) cap ∧ N + 1 ≤ cap ∧ w.cell? ⟨g, N, none⟩ = some u ∧ w.frozen? ⟨g, N, none⟩ = false ∧ base ≤ g ∧
      ∀ y, OW (w.setCell ⟨g, N, none⟩ y) base e v (L ++ [y]) ∧ Below base w (w.setCell ⟨g, N, none⟩ y) := by
  subst hN
  obtain ⟨g, cap, rfl, hc, hb, hg⟩ := own_form h (by simp)
  have hl : (L ++ [u]).length = L.length + 1 := by simp
  have h' := h
  unfold OW at h'
  rw [hl] at h' hc ⊢
  refine ⟨g, cap, rfl, hc, ?_, h'.frozenAt _, hb, fun y => ⟨?_, (Below.refl _ _).setCell hb _⟩⟩
  · rw [h'.cellAt _ (by omega), List.getElem?_append_right (Nat.le_refl _), Nat.sub_self]; rfl
  · have := (h'.stored L.length y).1
    rw [List.set_append_right _ _ (Nat.le_refl _), Nat.sub_self] at this
    exact OW.len this

set_option maxHeartbeats 2000000 in
theorem sBitsRuns_any (v : Value) (L : List Bool) (w : World) (h : RV w w.heap.size v (L.map Value.bool)) (hn : L.length ≤ 1048576) :
    Calls Try.prog 33 #[v] w (NewRow w 3 ((runs L).map (Value.int .i64))) := by
  obtain ⟨A, cap, rfl, hl, hm, hc⟩ := h
  rw [List.length_map] at hl hc ⊢
  obtain ⟨i0, hi, hz0, hz1, hz2⟩ := info_parts infoInt
  by_cases h16 : 16 < L.length
  · have H := hid' (show runs L = [] from if_neg (by omega))
    clear hc
    go_enter Try.func33, Try.ntmps33
    go_wp2
    go_ret
    exact newrow_of (by rw [H.out]; exact own_empty (Nat.le_refl _)) (bnew w _)
  · have H := hid' (show runs L = runL (rstate L) from if_pos (by omega))
    go_enter Try.func33, Try.ntmps33
    go_wp2
    go_loopw [3, 4, 5, 6] (fun v c n i wr => ∃ k : Nat, k ≤ L.length ∧ i = .int .i64 k ∧ c = .bool (rstate (L.take k)).val ∧ n = .int .i64 ((rstate (L.take k)).num : Int) ∧ OW wr w.heap.size 3 v ((rstate (L.take k)).out.map (Value.int .i64)) ∧ Below w.heap.size w wr) (fun _ _ _ i _ => L.length - (intOf i).toNat)
    case atStart => exact ⟨0, Nat.zero_le _, rfl, rfl, rfl, own_empty (Nat.le_refl _), bnew w _⟩
    case round =>
      obtain ⟨k, hk, rfl, rfl, rfl, hown, hbel⟩ := hrel
      obtain ⟨bd1, bd2, _⟩ := rstate_bound L k
      obtain ⟨s, hs⟩ : ∃ s, rstate (L.take k) = s := ⟨_, rfl⟩
      have HS := hid' hs
      rw [hs] at hown bd1 bd2 ⊢
      clear hs
      obtain ⟨o, c, m⟩ := s
      simp only at hown bd1 bd2 ⊢
      by_cases hlt : k < L.length
      · obtain ⟨b, off, rfl, hbB, hcell⟩ := hc (by omega)
        obtain ⟨x, hx, hxv⟩ := get_bool hlt
        have hco := hcell k _ hxv
        have hcx : wr.cell? ⟨b, off + k, none⟩ = some (.bool x) := (hbel.cell (p := ⟨b, off + k, none⟩) (by show b < w.heap.size; omega)).trans hco
        have HT := hid' (rstate_take hx)
        clear hcell hc hx hxv
        by_cases hxc : x = c
        · have HE : Hid (rstate (L.take (k + 1)) = ⟨o, c, m + 1⟩) := by unfold Hid; rw [HT.out, HS.out]; exact if_pos hxc
          subst hxc
          have q1 : (x != x) = false := by simp
          have q2 : (x == x) = true := by simp
          go_wp2_with fail
          go_roundw
          case rel => exact ⟨k + 1, by omega, by go_num, by rw [HE.out], by rw [HE.out]; go_num, by rw [HE.out]; exact hown, hbel⟩
          case measure => simp [intOf]; omega
        · have HE : Hid (rstate (L.take (k + 1)) = ⟨o ++ [(m : Int)], x, 1⟩) := by unfold Hid; rw [HT.out, HS.out]; exact if_neg hxc
          have q1 : (x != c) = true := by simp [hxc]
          have q2 : (x == c) = false := by simp [hxc]
          clear hxc
          go_wp2_with (at_builtin; refine wpList_push _ rfl _ _ 30 rfl w.heap.size 3 i0 (.int .i64 0) 8 Try.underlying30 hi hz0 hz1 hz2 rfl _ _ rfl hown _ rfl rfl (by rw [List.length_map]; omega) (by decide) (hbel.size) ?_; intro v' w1 hown1 hbel1; have hb1 := hbel.trans hbel1; have hcx1 : w1.cell? ⟨b, off + k, none⟩ = some (.bool x) := (hb1.cell (p := ⟨b, off + k, none⟩) (by show b < w.heap.size; omega)).trans hco)
          have hb1 := hbel.trans hbel1
          go_roundw
          case rel => exact ⟨k + 1, by omega, by go_num, by rw [HE.out], by rw [HE.out]; rfl, by rw [HE.out, List.map_append]; exact hown1, hb1⟩
          case measure => simp [intOf]; omega
      · have hkl : k = L.length := by omega
        have HF : Hid (runs L = runL ⟨o, c, m⟩) := by unfold Hid; rw [H.out, ← HS.out, hkl, List.take_length]
        subst hkl
        clear hc
        by_cases hm0 : m = 0
        · have HR : Hid (runs L = o) := by unfold Hid; rw [HF.out]; exact if_neg (by simp; omega)
          subst hm0
          go_wp2_with fail
          go_ret
          exact newrow_of (by rw [HR.out]; exact hown) hbel
        · have HR : Hid (runs L = o ++ [(m : Int)]) := by unfold Hid; rw [HF.out]; exact if_pos (by simp; omega)
          have hm1 : 0 < m := by omega
          clear hm0
          go_wp2_with (at_builtin; refine wpList_push _ rfl _ _ 30 rfl w.heap.size 3 i0 (.int .i64 0) 8 Try.underlying30 hi hz0 hz1 hz2 rfl _ _ rfl hown _ rfl rfl (by rw [List.length_map]; omega) (by decide) (hbel.size) ?_; intro v' w1 hown1 hbel1)
          go_wp2_with fail
          go_ret
          exact newrow_of (by rw [HR.out, List.map_append]; exact hown1) (hbel.trans hbel1)

/-- the program's list of runs behind k bits -/
def ilist (k : Nat) (s : RunSt) : List Int := if k = 0 then [] else s.out ++ [(s.num : Int)]
set_option maxHeartbeats 4000000 in
theorem iBitsRuns_any (v : Value) (L : List Bool) (w : World) (h : RV w w.heap.size v (L.map Value.bool)) (hn : L.length ≤ 1048576) :
    Calls Try.prog 32 #[v] w (NewRow w 3 ((runs L).map (Value.int .i64))) := by
  obtain ⟨A, cap, rfl, hl, hm, hc⟩ := h
  rw [List.length_map] at hl hc ⊢
  obtain ⟨i0, hi, hz0, hz1, hz2⟩ := info_parts infoInt
  by_cases h16 : 16 < L.length
  · have H := hid' (show runs L = [] from if_neg (by omega))
    clear hc
    go_enter Try.func32, Try.ntmps32
    go_wp2
    go_ret
    exact newrow_of (by rw [H.out]; exact own_nil _ _ _) (Below.refl _ _)
  · have H := hid' (show runs L = runL (rstate L) from if_pos (by omega))
    go_enter Try.func32, Try.ntmps32
    go_wp2
    go_loopw [3, 4, 13] (fun v c i wr => ∃ k : Nat, k ≤ L.length ∧ i = .int .i64 k ∧ c = .bool (rstate (L.take k)).val ∧ OW wr w.heap.size 3 v ((ilist k (rstate (L.take k))).map (Value.int .i64)) ∧ Below w.heap.size w wr) (fun _ _ i _ => L.length - (intOf i).toNat)
    case atStart => exact ⟨0, Nat.zero_le _, rfl, rfl, own_empty (Nat.le_refl _), bnew w _⟩
    case round =>
      obtain ⟨k, hk, rfl, rfl, hown, hbel⟩ := hrel
      obtain ⟨bd1, bd2, bd3⟩ := rstate_bound L k
      by_cases hlt : k < L.length
      · obtain ⟨b, off, rfl, hbB, hcell⟩ := hc (by omega)
        obtain ⟨x, hx, hxv⟩ := get_bool hlt
        have hco := hcell k _ hxv
        have hcx : wr.cell? ⟨b, off + k, none⟩ = some (.bool x) := (hbel.cell (p := ⟨b, off + k, none⟩) (by show b < w.heap.size; omega)).trans hco
        have HT := hid' (rstate_take hx)
        clear hcell hc hx hxv
        by_cases hk0 : k = 0
        · have hown0 : OW wr w.heap.size 3 u3 [] := by have := hown; rw [hk0] at this; exact this
          have H0 : Hid (rstate (L.take (k + 1)) = rstep ⟨[], false, 0⟩ x) := by unfold Hid; rw [HT.out, hk0]; rfl
          have HI : Hid (∀ s, ilist (k + 1) s = s.out ++ [(s.num : Int)]) := fun s => if_neg (by omega)
          rw [show (rstate (L.take k)).val = false by rw [hk0]; rfl]
          have hke : ((k : Int) == 0) = true := beq_iff_eq.2 (by omega)
          clear hown bd1 bd2 bd3 hk0
          cases x
          · go_wp2_with (at_builtin; refine wpList_push _ rfl _ _ 30 rfl w.heap.size 3 i0 (.int .i64 0) 8 Try.underlying30 hi hz0 hz1 hz2 rfl _ _ rfl hown0 _ rfl rfl (by simp) (by decide) (hbel.size) ?_; intro v' w1 hown1 hbel1; obtain ⟨g, cp, rfl, hcp, l1, l2, lb, l3⟩ := own_last (N := 0) (L := []) hown1 rfl; obtain ⟨l4, l5⟩ := l3 (.int .i64 1); have L4 := hid' l4; have L5 := hid' l5; clear l3 l4 l5 hown1)
            have hb1 := hbel.trans hbel1
            go_roundw
            case rel => exact ⟨k + 1, by omega, by go_num, by rw [H0.out]; rfl, by rw [H0.out, HI.out]; exact L4.out, hb1.trans L5.out⟩
            case measure => simp [intOf]; omega
          · go_wp2_with (first | (at_builtin; refine wpList_push _ rfl _ _ 30 rfl w.heap.size 3 i0 (.int .i64 0) 8 Try.underlying30 hi hz0 hz1 hz2 rfl _ _ rfl hown0 _ rfl rfl (by simp) (by decide) (hbel.size) ?_; intro v' w1 hown1 hbel1) | (at_builtin; refine wpList_push _ rfl _ _ 30 rfl w.heap.size 3 i0 (.int .i64 0) 8 Try.underlying30 hi hz0 hz1 hz2 rfl _ _ rfl hown1 _ rfl rfl (by simp) (by decide) ((hbel.trans hbel1).size) ?_; intro v2 w2 hown2 hbel2; obtain ⟨g, cp, rfl, hcp, l1, l2, lb, l3⟩ := own_last (N := 1) (L := [.int .i64 0]) hown2 rfl; obtain ⟨l4, l5⟩ := l3 (.int .i64 1); have L4 := hid' l4; have L5 := hid' l5; clear l3 l4 l5 hown1 hown2))
            have hb1 := hbel.trans hbel1
            go_roundw
            case rel => exact ⟨k + 1, by omega, by go_num, by rw [H0.out]; rfl, by rw [H0.out, HI.out]; exact L4.out, (hb1.trans hbel2).trans L5.out⟩
            case measure => simp [intOf]; omega
        · have hkpos : 0 < k := by omega
          have hn1 := rstate_num hkpos (Nat.le_of_lt hlt)
          obtain ⟨s, hs⟩ : ∃ s, rstate (L.take k) = s := ⟨_, rfl⟩
          have HS := hid' hs
          rw [hs] at hown bd1 bd2 bd3 hn1 ⊢
          clear hs
          obtain ⟨o, c, m⟩ := s
          simp only at bd1 bd2 bd3 hn1 ⊢
          have hown0 : OW wr w.heap.size 3 u3 (o.map (Value.int .i64) ++ [.int .i64 (m : Int)]) := by
            have : ilist k ⟨o, c, m⟩ = o ++ [(m : Int)] := if_neg hk0
            rw [this, List.map_append] at hown; exact hown
          have hke : ((k : Int) == 0) = false := beq_eq_false_iff_ne.2 (by omega)
          obtain ⟨N, hN⟩ : ∃ N, (o.map (Value.int .i64)).length = N := ⟨_, rfl⟩
          have hN1 : N ≤ 1048577 := by rw [← hN, List.length_map]; have := bd3 hkpos; omega
          have HN := hid' hN
          clear hown hk0 hN
          by_cases hxc : x = c
          · have HE : Hid (rstate (L.take (k + 1)) = ⟨o, c, m + 1⟩) := by unfold Hid; rw [HT.out, HS.out]; exact if_pos hxc
            subst hxc
            have q1 : (x != x) = false := by simp
            have q2 : (x == x) = true := by simp
            obtain ⟨g, cp, rfl, hcp, l1, l2, lb, l3⟩ := own_last hown0 HN.out
            obtain ⟨l4, l5⟩ := l3 (.int .i64 ((m : Int) + 1))
            have L4 := hid' l4
            have L5 := hid' l5
            clear l3 l4 l5 hown0
            go_wp2_with fail
            go_roundw
            case rel => exact ⟨k + 1, by omega, by go_num, by rw [HE.out], by rw [HE.out]; have := L4.out; simpa [ilist] using this, hbel.trans L5.out⟩
            case measure => simp [intOf]; omega
          · have HE : Hid (rstate (L.take (k + 1)) = ⟨o ++ [(m : Int)], x, 1⟩) := by unfold Hid; rw [HT.out, HS.out]; exact if_neg hxc
            have q1 : (x != c) = true := by simp [hxc]
            have q2 : (x == c) = false := by simp [hxc]
            clear hxc
            have HL : Hid ((o.map (Value.int .i64) ++ [Value.int .i64 (m : Int)]).length = N + 1) := by unfold Hid; rw [List.length_append, HN.out]; rfl
            go_wp2_with (at_builtin; refine wpList_push _ rfl _ _ 30 rfl w.heap.size 3 i0 (.int .i64 0) 8 Try.underlying30 hi hz0 hz1 hz2 rfl _ _ rfl hown0 _ rfl rfl (by rw [HL.out]; omega) (by decide) (hbel.size) ?_; intro v' w1 hown1 hbel1; obtain ⟨g, cp, rfl, hcp, l1, l2, lb, l3⟩ := own_last hown1 HL.out; obtain ⟨l4, l5⟩ := l3 (.int .i64 1); have L4 := hid' l4; have L5 := hid' l5; clear l3 l4 l5 hown0 hown1)
            go_roundw
            case rel => exact ⟨k + 1, by omega, by go_num, by rw [HE.out], by rw [HE.out]; have := L4.out; simpa [ilist] using this, (hbel.trans hbel1).trans L5.out⟩
            case measure => simp [intOf]; omega
      · have hkl : k = L.length := by omega
        have HR : Hid (runs L = ilist k (rstate (L.take k))) := by
          unfold Hid ilist
          rw [H.out, hkl, List.take_length]
          by_cases h0 : L.length = 0
          · rw [if_pos h0]
            have : L = [] := List.eq_nil_of_length_eq_zero h0
            subst this; rfl
          · rw [if_neg h0]
            have := rstate_num (L := L) (k := L.length) (by omega) (Nat.le_refl _)
            rw [List.take_length] at this
            exact if_pos (by omega)
        clear hc
        go_wp2_with fail
        go_ret
        exact newrow_of (by rw [HR.out]; exact hown) hbel
end Go.Proofs.Ytjmgkcmmhkpmhaa
