/- The walks of the functions that read runs back. -/
import Derived.Test.YtjmgkcmmhkpmhaaRuns
import Derived.OpenShut
namespace Go.Proofs.Ytjmgkcmmhkpmhaa
set_option linter.unusedVariables false
open Go.RowKit

/-- What reading runs back leaves. -/
def BitsPost (w : World) (R : List Int) (e : Ending) (w' : World) : Prop :=
  ∃ v, e = .returned (.tuple #[v, .bool (bitsOf R).isSome]) ∧ Row w' w.heap.size w'.heap.size 4 v (((bitsOf R).getD []).map Value.bool) ∧ Below w.heap.size w w'
theorem bp_none {w w' : World} {R : List Int} {v : Value} (h : bitsOf R = none) (ho : OW w' w.heap.size 4 v []) (hb : Below w.heap.size w w') : BitsPost w R (.returned (.tuple #[v, .bool false])) w' :=
  ⟨v, by rw [h]; rfl, Row.of (by rw [h]; exact ho), hb⟩
theorem bp_some {w w' : World} {R : List Int} {v : Value} {L : List Bool} (h : bitsOf R = some L) (ho : OW w' w.heap.size 4 v (L.map Value.bool)) (hb : Below w.heap.size w w') : BitsPost w R (.returned (.tuple #[v, .bool true])) w' :=
  ⟨v, by rw [h]; rfl, Row.of (by rw [h]; exact ho), hb⟩
theorem getD_of {R : List Int} {k : Nat} {x : Int} (h : R[k]? = some x) : R.getD k 0 = x := by rw [List.getD_eq_getElem?_getD, h]; rfl

set_option maxHeartbeats 4000000 in
theorem iBitsOf_any (v : Value) (R : List Int) (w : World) (h : RV w w.heap.size v (R.map (Value.int .i64))) (hn : R.length ≤ 1048576) (hwf : ∀ n ∈ R, (Lit.int .i64 n).wf = true) :
    Calls Try.prog 36 #[v] w (BitsPost w R) := by
  obtain ⟨A, cap, rfl, hl, hm, hc⟩ := h
  rw [List.length_map] at hl hc ⊢
  obtain ⟨j0, ji, jz0, jz1, jz2⟩ := info_parts infoBool
  have HWF := hid' hwf
  clear hwf
  go_enter Try.func36, Try.ntmps36
  go_wp2
  go_loopw [4, 11] (fun v i wr => ∃ k : Nat, k ≤ R.length ∧ i = .int .i64 k ∧ Hid (runsOk R k) ∧ (expand R k).length ≤ 16 ∧ OW wr w.heap.size 4 v ((expand R k).map Value.bool) ∧ Below w.heap.size w wr) (fun _ i _ => R.length - (intOf i).toNat)
  case atStart => exact ⟨0, Nat.zero_le _, rfl, fun j hj => absurd hj (by omega), Nat.zero_le _, own_empty (Nat.le_refl _), bnew w _⟩
  case round =>
    obtain ⟨k, hk, rfl, hok, hlen, hown, hbel⟩ := hrel
    by_cases hlt : k < R.length
    · obtain ⟨b, off, rfl, hbB, hcell⟩ := hc (by omega)
      obtain ⟨x, hx, hxv⟩ := get_int hlt
      have hcx : wr.cell? ⟨b, off + k, none⟩ = some (.int .i64 x) := (hbel.cell (p := ⟨b, off + k, none⟩) (by show b < w.heap.size; omega)).trans (hcell k _ hxv)
      have HX := hid' (getD_of hx)
      obtain ⟨wf0, wf1⟩ := bounds_i64 (HWF.out x (List.mem_of_getElem? hx))
      have HL := hid' (expand_succ_len R k)
      obtain ⟨P, hP⟩ : ∃ P, expand R k = P := ⟨_, rfl⟩
      have HP := hid' hP
      obtain ⟨Z, hZ⟩ : ∃ Z, Z = ((expand R k).map Value.bool).length := ⟨_, rfl⟩
      have hZ16 : Z ≤ 16 := by rw [hZ, List.length_map]; exact hlen
      have HZ : Hid (Z = (expand R k).length) := by unfold Hid; rw [hZ, List.length_map]
      obtain ⟨gA, gc, hform⟩ : ∃ gA gc, u4 = .slice gA Z gc := by
        rcases hown.2 with ⟨hv, h0⟩ | ⟨g, cap', cur, hv, _⟩
        · exact ⟨none, 0, by rw [hv, hZ, h0]⟩
        · exact ⟨_, cap', by rw [hv, hZ]⟩
      subst hform
      obtain ⟨c, hcb⟩ : ∃ c : Bool, ((k : Int) % 2 == 1) = c := ⟨_, rfl⟩
      have HC : Hid (bitK k = c) := hcb
      have lsd := lst_01 R.length k
      clear hcell hx hxv hP hZ
      by_cases hgood : lst R.length k ≤ x ∧ x ≤ 16 - (Z : Int)
      · obtain ⟨hg1, hg2⟩ := hgood
        have x0 : 0 ≤ x := by omega
        have HG : Hid (inB x (lst R.length k) (16 - (Z : Int)) = true) := inB_true.2 ⟨hg1, hg2⟩
        have HOK : Hid (runsOk R (k + 1)) := fun j hj => by
          rcases Nat.lt_or_ge j k with h1 | h1
          · exact hok.out j h1
          · rw [show j = k by omega, HX.out]; exact hg1
        have HL2 : Hid ((expand R (k + 1)).length ≤ 16) := by unfold Hid; rw [HL.out, ← HZ.out, HX.out]; omega
        have HE : Hid (expand R (k + 1) = P ++ List.replicate x.toNat c) := by
          unfold Hid; rw [← HP.out, ← HC.out, ← HX.out]; rfl
        have hPl : P.length ≤ 16 := by rw [← HP.out]; exact hlen
        rw [HP.out] at hown
        clear hc hok hlen
        rcases (show (k = 0 ∧ 1 < R.length) ∨ (k = 0 ∧ R.length = 1) ∨ (1 ≤ k) by omega) with hq | hq | hq
        · have hls : lst R.length k = 0 := if_pos hq
          obtain ⟨hq1, hq2⟩ := hq
          have hke : ((k : Int) == 0) = true := beq_iff_eq.2 (by omega)
          rw [hls] at HG
          clear hq1 hls
          go_wp2_with fail
          (with_reducible refine (within_b x _ _ true _ HG.out).mono ?_)
          rintro _ _ ⟨rfl, rfl⟩
          go_wp2_with fail
          obtain ⟨wo, rfl⟩ : ∃ wo : World, wo = wr := ⟨_, rfl⟩
          go_loopw [4, 31] (fun v i wr => ∃ j : Nat, (j : Int) ≤ x ∧ i = .int .i64 j ∧ OW wr w.heap.size 4 v ((P ++ List.replicate j c).map Value.bool) ∧ Below w.heap.size w wr) (fun _ i _ => (x - intOf i).toNat)
          case atStart => exact ⟨0, x0, rfl, by simpa using hown, hbel⟩
          case round =>
            obtain ⟨j, hj, rfl, hown2, hbel2⟩ := hrel
            by_cases hjx : (j : Int) < x
            · go_wp2_with (at_builtin; refine wpList_push _ rfl _ _ 22 rfl w.heap.size 4 j0 (.bool false) 1 Try.underlying22 ji jz0 jz1 jz2 rfl _ _ rfl hown2 _ rfl rfl (by rw [List.length_map, List.length_append, List.length_replicate]; omega) (by decide) hbel2.size ?_; intro v' w1 hown3 hbel3)
              go_roundw
              case rel => exact ⟨j + 1, by omega, by go_num, by rw [List.replicate_succ', ← List.append_assoc, List.map_append]; exact hown3, hbel2.trans hbel3⟩
              case measure => simp [intOf]; omega
            · have hjj : j = x.toNat := by omega
              have HO : Hid (OW wr w.heap.size 4 u4 ((expand R (k + 1)).map Value.bool)) := by unfold Hid; rw [HE.out, ← hjj]; exact hown2
              clear hown2 hown hjj
              go_wp2_with fail
              go_roundw
              case rel => exact ⟨k + 1, by omega, by go_num, HOK, HL2.out, HO.out, hbel2⟩
              case measure => simp [intOf]; omega
        · have hls : lst R.length k = 1 := if_neg (by omega)
          obtain ⟨hq1, hq2⟩ := hq
          have hke : ((k : Int) == 0) = true := beq_iff_eq.2 (by omega)
          have hq3 : decide ((1 : Int) < (R.length : Int)) = false := by simp; omega
          have hq4 : decide (1 < R.length) = false := by simp; omega
          rw [hls] at HG
          clear hq1 hls hq2
          go_wp2_with fail
          (with_reducible refine (within_b x _ _ true _ HG.out).mono ?_)
          rintro _ _ ⟨rfl, rfl⟩
          go_wp2_with fail
          obtain ⟨wo, rfl⟩ : ∃ wo : World, wo = wr := ⟨_, rfl⟩
          go_loopw [4, 31] (fun v i wr => ∃ j : Nat, (j : Int) ≤ x ∧ i = .int .i64 j ∧ OW wr w.heap.size 4 v ((P ++ List.replicate j c).map Value.bool) ∧ Below w.heap.size w wr) (fun _ i _ => (x - intOf i).toNat)
          case atStart => exact ⟨0, x0, rfl, by simpa using hown, hbel⟩
          case round =>
            obtain ⟨j, hj, rfl, hown2, hbel2⟩ := hrel
            by_cases hjx : (j : Int) < x
            · go_wp2_with (at_builtin; refine wpList_push _ rfl _ _ 22 rfl w.heap.size 4 j0 (.bool false) 1 Try.underlying22 ji jz0 jz1 jz2 rfl _ _ rfl hown2 _ rfl rfl (by rw [List.length_map, List.length_append, List.length_replicate]; omega) (by decide) hbel2.size ?_; intro v' w1 hown3 hbel3)
              go_roundw
              case rel => exact ⟨j + 1, by omega, by go_num, by rw [List.replicate_succ', ← List.append_assoc, List.map_append]; exact hown3, hbel2.trans hbel3⟩
              case measure => simp [intOf]; omega
            · have hjj : j = x.toNat := by omega
              have HO : Hid (OW wr w.heap.size 4 u4 ((expand R (k + 1)).map Value.bool)) := by unfold Hid; rw [HE.out, ← hjj]; exact hown2
              clear hown2 hown hjj
              go_wp2_with fail
              go_roundw
              case rel => exact ⟨k + 1, by omega, by go_num, HOK, HL2.out, HO.out, hbel2⟩
              case measure => simp [intOf]; omega
        · have hls : lst R.length k = 1 := if_neg (by omega)
          have hke : ((k : Int) == 0) = false := beq_eq_false_iff_ne.2 (by omega)
          rw [hls] at HG
          clear hls
          go_wp2_with fail
          (with_reducible refine (within_b x _ _ true _ HG.out).mono ?_)
          rintro _ _ ⟨rfl, rfl⟩
          go_wp2_with fail
          obtain ⟨wo, rfl⟩ : ∃ wo : World, wo = wr := ⟨_, rfl⟩
          go_loopw [4, 31] (fun v i wr => ∃ j : Nat, (j : Int) ≤ x ∧ i = .int .i64 j ∧ OW wr w.heap.size 4 v ((P ++ List.replicate j c).map Value.bool) ∧ Below w.heap.size w wr) (fun _ i _ => (x - intOf i).toNat)
          case atStart => exact ⟨0, x0, rfl, by simpa using hown, hbel⟩
          case round =>
            obtain ⟨j, hj, rfl, hown2, hbel2⟩ := hrel
            by_cases hjx : (j : Int) < x
            · go_wp2_with (at_builtin; refine wpList_push _ rfl _ _ 22 rfl w.heap.size 4 j0 (.bool false) 1 Try.underlying22 ji jz0 jz1 jz2 rfl _ _ rfl hown2 _ rfl rfl (by rw [List.length_map, List.length_append, List.length_replicate]; omega) (by decide) hbel2.size ?_; intro v' w1 hown3 hbel3)
              go_roundw
              case rel => exact ⟨j + 1, by omega, by go_num, by rw [List.replicate_succ', ← List.append_assoc, List.map_append]; exact hown3, hbel2.trans hbel3⟩
              case measure => simp [intOf]; omega
            · have hjj : j = x.toNat := by omega
              have HO : Hid (OW wr w.heap.size 4 u4 ((expand R (k + 1)).map Value.bool)) := by unfold Hid; rw [HE.out, ← hjj]; exact hown2
              clear hown2 hown hjj
              go_wp2_with fail
              go_roundw
              case rel => exact ⟨k + 1, by omega, by go_num, HOK, HL2.out, HO.out, hbel2⟩
              case measure => simp [intOf]; omega
      · have HN : Hid (bitsOf R = none) := by
          unfold Hid
          by_cases h1 : lst R.length k ≤ x
          · refine bitsOf_long (k := k + 1) (by omega) ?_
            rw [HL.out, ← HZ.out, HX.out]
            omega
          · exact bitsOf_bad hlt (by rw [HX.out]; omega)
        have HG : Hid (inB x (lst R.length k) (16 - (Z : Int)) = false) := inB_false.2 (by omega)
        clear hc hok hlen hgood
        rcases (show (k = 0 ∧ 1 < R.length) ∨ (k = 0 ∧ R.length = 1) ∨ (1 ≤ k) by omega) with hq | hq | hq
        · have hls : lst R.length k = 0 := if_pos hq
          obtain ⟨hq1, hq2⟩ := hq
          have hke : ((k : Int) == 0) = true := beq_iff_eq.2 (by omega)
          rw [hls] at HG
          clear hq1 hls
          go_wp2_with fail
          (with_reducible refine (within_b x _ _ false _ HG.out).mono ?_)
          rintro _ _ ⟨rfl, rfl⟩
          go_wp2_with fail
          go_ret2
          exact bp_none HN.out (own_nil _ _ _) hbel
        · have hls : lst R.length k = 1 := if_neg (by omega)
          obtain ⟨hq1, hq2⟩ := hq
          have hke : ((k : Int) == 0) = true := beq_iff_eq.2 (by omega)
          have hq3 : decide ((1 : Int) < (R.length : Int)) = false := by simp; omega
          have hq4 : decide (1 < R.length) = false := by simp; omega
          rw [hls] at HG
          clear hq1 hls hq2
          go_wp2_with fail
          (with_reducible refine (within_b x _ _ false _ HG.out).mono ?_)
          rintro _ _ ⟨rfl, rfl⟩
          go_wp2_with fail
          go_ret2
          exact bp_none HN.out (own_nil _ _ _) hbel
        · have hls : lst R.length k = 1 := if_neg (by omega)
          have hke : ((k : Int) == 0) = false := beq_eq_false_iff_ne.2 (by omega)
          rw [hls] at HG
          clear hls
          go_wp2_with fail
          (with_reducible refine (within_b x _ _ false _ HG.out).mono ?_)
          rintro _ _ ⟨rfl, rfl⟩
          go_wp2_with fail
          go_ret2
          exact bp_none HN.out (own_nil _ _ _) hbel
    · have hkl : k = R.length := by omega
      subst hkl
      have HS := hid' (bitsOf_some hok.out hlen)
      clear hc hok hlen
      go_wp2_with fail
      go_ret2
      exact bp_some HS.out hown hbel
set_option maxHeartbeats 4000000 in
theorem sBitsOf_any (v : Value) (R : List Int) (w : World) (h : RV w w.heap.size v (R.map (Value.int .i64))) (hn : R.length ≤ 1048576) (hwf : ∀ n ∈ R, (Lit.int .i64 n).wf = true) :
    Calls Try.prog 34 #[v] w (BitsPost w R) := by
  obtain ⟨A, cap, rfl, hl, hm, hc⟩ := h
  rw [List.length_map] at hl hc ⊢
  obtain ⟨j0, ji, jz0, jz1, jz2⟩ := info_parts infoBool
  have HWF := hid' hwf
  clear hwf
  go_enter Try.func34, Try.ntmps34
  go_wp2
  go_loopw [4, 5, 6] (fun v c i wr => ∃ k : Nat, k ≤ R.length ∧ i = .int .i64 k ∧ Hid (runsOk R k ∧ ∀ j, j < k → R.getD j 0 ≤ 16) ∧ c = .bool (bitK k) ∧ OW wr w.heap.size 4 v ((expand R k).map Value.bool) ∧ Below w.heap.size w wr) (fun _ _ i _ => R.length - (intOf i).toNat)
  case atStart => exact ⟨0, Nat.zero_le _, rfl, ⟨fun j hj => absurd hj (by omega), fun j hj => absurd hj (by omega)⟩, rfl, own_empty (Nat.le_refl _), bnew w _⟩
  case round =>
    obtain ⟨k, hk, rfl, hok, rfl, hown, hbel⟩ := hrel
    have hebd := expand_bd R k hok.out.2
    by_cases hlt : k < R.length
    · obtain ⟨b, off, rfl, hbB, hcell⟩ := hc (by omega)
      obtain ⟨x, hx, hxv⟩ := get_int hlt
      have hco := hcell k _ hxv
      have hcx : wr.cell? ⟨b, off + k, none⟩ = some (.int .i64 x) := (hbel.cell (p := ⟨b, off + k, none⟩) (by show b < w.heap.size; omega)).trans hco
      have HX := hid' (getD_of hx)
      obtain ⟨wf0, wf1⟩ := bounds_i64 (HWF.out x (List.mem_of_getElem? hx))
      obtain ⟨P, hP⟩ : ∃ P, expand R k = P := ⟨_, rfl⟩
      have HP := hid' hP
      obtain ⟨c, hcb⟩ : ∃ c : Bool, bitK k = c := ⟨_, rfl⟩
      have HC := hid' hcb
      rw [hcb]
      have hPl : P.length ≤ 16 * 1048576 := by rw [← HP.out]; omega
      have lsd := lst_01 R.length k
      clear hcell hx hxv hP hcb hebd
      rcases (show x < 0 ∨ 16 < x ∨ (x = 0 ∧ 1 ≤ k) ∨ (x = 0 ∧ k = 0 ∧ R.length = 1) ∨ (x = 0 ∧ k = 0 ∧ 1 < R.length) ∨ (1 ≤ x ∧ x ≤ 16) by omega) with hq | hq | ⟨rfl, hq⟩ | ⟨rfl, hk0, hq⟩ | ⟨rfl, hk0, hq⟩ | ⟨hq1, hq2⟩
      · have HN : Hid (bitsOf R = none) := bitsOf_bad hlt (by rw [HX.out]; omega)
        clear hc hok
        go_wp2_with fail
        go_ret2
        exact bp_none HN.out (own_empty hbel.size) (hbel.alloc hbel.size _)
      · have HN : Hid (bitsOf R = none) := bitsOf_long (k := k + 1) (by omega) (by rw [expand_succ_len, HX.out]; omega)
        clear hc hok
        go_wp2_with fail
        go_ret2
        exact bp_none HN.out (own_empty hbel.size) (hbel.alloc hbel.size _)
      · have hls : lst R.length k = 1 := if_neg (by omega)
        have HN : Hid (bitsOf R = none) := bitsOf_bad hlt (by rw [HX.out, hls]; omega)
        clear hc hok
        go_wp2_with fail
        go_ret2
        exact bp_none HN.out (own_empty hbel.size) (hbel.alloc hbel.size _)
      · have hls : lst R.length k = 1 := if_neg (by omega)
        have hq3 : ((R.length : Int) == 1) = true := beq_iff_eq.2 (by omega)
        have hk1 : decide ((0 : Int) < (k : Int)) = false := by simp; omega
        have hk2 : decide (0 < k) = false := by simp; omega
        have HN0 : Hid (bitsOf R = none) := bitsOf_bad hlt (by rw [HX.out, hls]; omega)
        clear hk0 hls
        have HN : Hid (bitsOf R = none) := HN0.out
        clear hc hok
        go_wp2_with fail
        go_ret2
        exact bp_none HN.out (own_empty hbel.size) (hbel.alloc hbel.size _)
      · have hls : lst R.length k = 0 := if_pos ⟨hk0, hq⟩
        have HLS : Hid (lst R.length k ≤ 0) := by unfold Hid; omega
        have hq3 : ((R.length : Int) == 1) = false := beq_eq_false_iff_ne.2 (by omega)
        have hk1 : decide ((0 : Int) < (k : Int)) = false := by simp; omega
        have hk2 : decide (0 < k) = false := by simp; omega
        clear hk0 hls
        have HOK : Hid (runsOk R (k + 1)) := fun j hj => by
          rcases Nat.lt_or_ge j k with h1 | h1
          · exact hok.out.1 j h1
          · rw [show j = k by omega, HX.out]; exact HLS.out
        have HOK2 : Hid (∀ j, j < k + 1 → R.getD j 0 ≤ 16) := fun j hj => by
          rcases Nat.lt_or_ge j k with h1 | h1
          · exact hok.out.2 j h1
          · rw [show j = k by omega, HX.out]; omega
        have HE : Hid (expand R (k + 1) = P ++ List.replicate (0 : Int).toNat c) := by
          unfold Hid; rw [← HP.out, ← HC.out, ← HX.out]; rfl
        have HC2 : Hid (bitK (k + 1) = !c) := by unfold Hid; rw [bitK_succ, HC.out]
        rw [HP.out] at hown
        clear hc hok
        go_wp2_with fail
        obtain ⟨wo, rfl⟩ : ∃ wo : World, wo = wr := ⟨_, rfl⟩
        go_loopw [4, 7] (fun v i wr => ∃ j : Nat, (j : Int) ≤ 0 ∧ i = .int .i64 j ∧ OW wr w.heap.size 4 v ((P ++ List.replicate j c).map Value.bool) ∧ Below w.heap.size w wr) (fun _ i _ => (0 - intOf i).toNat)
        case atStart => exact ⟨0, by omega, rfl, by simpa using hown, hbel⟩
        case round =>
          obtain ⟨j, hj, rfl, hown2, hbel2⟩ := hrel
          have hcx2 : wr.cell? ⟨b, off + k, none⟩ = some (.int .i64 0) := (hbel2.cell (p := ⟨b, off + k, none⟩) (by show b < w.heap.size; omega)).trans hco
          by_cases hjx : (j : Int) < 0
          · exfalso; omega
          · have hjj : j = (0 : Int).toNat := by omega
            have HO : Hid (OW wr w.heap.size 4 u4 ((expand R (k + 1)).map Value.bool)) := by unfold Hid; rw [HE.out, ← hjj]; exact hown2
            clear hown2 hown hjj
            go_wp2_with fail
            go_roundw
            case rel => exact ⟨k + 1, by omega, by go_num, ⟨HOK, HOK2⟩, by rw [HC2.out], HO.out, hbel2⟩
            case measure => simp [intOf]; omega
      · have hxe : (x == 0) = false := beq_eq_false_iff_ne.2 (by omega)
        have HOK : Hid (runsOk R (k + 1)) := fun j hj => by
          rcases Nat.lt_or_ge j k with h1 | h1
          · exact hok.out.1 j h1
          · rw [show j = k by omega, HX.out]; exact by omega
        have HOK2 : Hid (∀ j, j < k + 1 → R.getD j 0 ≤ 16) := fun j hj => by
          rcases Nat.lt_or_ge j k with h1 | h1
          · exact hok.out.2 j h1
          · rw [show j = k by omega, HX.out]; omega
        have HE : Hid (expand R (k + 1) = P ++ List.replicate (x : Int).toNat c) := by
          unfold Hid; rw [← HP.out, ← HC.out, ← HX.out]; rfl
        have HC2 : Hid (bitK (k + 1) = !c) := by unfold Hid; rw [bitK_succ, HC.out]
        rw [HP.out] at hown
        clear hc hok
        go_wp2_with fail
        obtain ⟨wo, rfl⟩ : ∃ wo : World, wo = wr := ⟨_, rfl⟩
        go_loopw [4, 7] (fun v i wr => ∃ j : Nat, (j : Int) ≤ x ∧ i = .int .i64 j ∧ OW wr w.heap.size 4 v ((P ++ List.replicate j c).map Value.bool) ∧ Below w.heap.size w wr) (fun _ i _ => (x - intOf i).toNat)
        case atStart => exact ⟨0, by omega, rfl, by simpa using hown, hbel⟩
        case round =>
          obtain ⟨j, hj, rfl, hown2, hbel2⟩ := hrel
          have hcx2 : wr.cell? ⟨b, off + k, none⟩ = some (.int .i64 x) := (hbel2.cell (p := ⟨b, off + k, none⟩) (by show b < w.heap.size; omega)).trans hco
          by_cases hjx : (j : Int) < x
          · go_wp2_with (at_builtin; refine wpList_push _ rfl _ _ 22 rfl w.heap.size 4 j0 (.bool false) 1 Try.underlying22 ji jz0 jz1 jz2 rfl _ _ rfl hown2 _ rfl rfl (by rw [List.length_map, List.length_append, List.length_replicate]; omega) (by decide) hbel2.size ?_; intro v' w1 hown3 hbel3)
            go_roundw
            case rel => exact ⟨j + 1, by omega, by go_num, by rw [List.replicate_succ', ← List.append_assoc, List.map_append]; exact hown3, hbel2.trans hbel3⟩
            case measure => simp [intOf]; omega
          · have hjj : j = (x : Int).toNat := by omega
            have HO : Hid (OW wr w.heap.size 4 u4 ((expand R (k + 1)).map Value.bool)) := by unfold Hid; rw [HE.out, ← hjj]; exact hown2
            clear hown2 hown hjj
            go_wp2_with fail
            go_roundw
            case rel => exact ⟨k + 1, by omega, by go_num, ⟨HOK, HOK2⟩, by rw [HC2.out], HO.out, hbel2⟩
            case measure => simp [intOf]; omega
    · have hkl : k = R.length := by omega
      obtain ⟨Z, hZ⟩ : ∃ Z, Z = ((expand R k).map Value.bool).length := ⟨_, rfl⟩
      have HZ : Hid (Z = (expand R k).length) := by unfold Hid; rw [hZ, List.length_map]
      obtain ⟨gA, gc, hform⟩ : ∃ gA gc, u4 = .slice gA Z gc := by
        rcases hown.2 with ⟨hv, h0⟩ | ⟨g, cap', cur, hv, _⟩
        · exact ⟨none, 0, by rw [hv, hZ, h0]⟩
        · exact ⟨_, cap', by rw [hv, hZ]⟩
      subst hform
      subst hkl
      clear hc hZ
      by_cases hz : 16 < Z
      · have HN : Hid (bitsOf R = none) := bitsOf_long (k := R.length) (Nat.le_refl _) (by rw [← HZ.out]; exact hz)
        clear hok
        go_wp2_with fail
        go_ret2
        exact bp_none HN.out (own_empty hbel.size) (hbel.alloc hbel.size _)
      · have HS := hid' (bitsOf_some hok.out.1 (by rw [← HZ.out]; omega))
        clear hok
        go_wp2_with fail
        go_ret2
        exact bp_some HS.out hown hbel
end Go.Proofs.Ytjmgkcmmhkpmhaa
