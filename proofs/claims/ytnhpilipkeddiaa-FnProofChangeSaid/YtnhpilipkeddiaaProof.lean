/- The walks of TreeProof. -/
import Derived.Test.YtnhpilipkeddiaaTD
import Derived.Test.YtnhpilipkeddiaaProofLaw
import Derived.Laws.BitsAllLaws
import Derived.Laws.BitsLemmas
namespace Go.Proofs.Ytnhpilipkeddiaa
set_option linter.unusedVariables false
open Go.RowKit

set_option maxHeartbeats 4000000 in
theorem peakOf_any (vt : Value) (n i k a h : Nat) (base : Nat) (w : World) (A : At n i k a h) (hn : n ≤ 16) (ht : OT w base vt (tr 0 n)) :
    Calls Try.prog 34 #[vt, .int .i64 (i : Int)] w fun e w' => e = .returned (.int .i64 (k : Int)) ∧ Below w.heap.size w w' := by
  obtain ⟨Ad, cap, rfl, hl, hc⟩ := ot_form ht
  obtain ⟨g, rfl, hgb, hgs, hcell⟩ := hc (by have := A.lt; omega)
  have HC := hid' hcell
  have HA := hid' A
  have k1 := A.lt
  have k2 := A.len
  have hin : i < n := Nat.lt_of_lt_of_le A.hi A.en
  clear hc hcell A ht
  go_enter Try.func34, Try.ntmps34
  go_wp2_with fail
  go_loopw [9] (fun x wr => ∃ j : Nat, j ≤ k ∧ x = .int .i64 j ∧ Below w.heap.size w wr) (fun x _ => k + 1 - (intOf x).toNat)
  case atStart => exact ⟨0, Nat.zero_le _, rfl, Below.refl _ _⟩
  case round =>
    obtain ⟨j, hj, rfl, hbel⟩ := hrel
    have hjl : j < (tr 0 n).length := by omega
    obtain ⟨t, htk⟩ : ∃ t, (tr 0 n)[j]? = some t := ⟨(tr 0 n)[j], List.getElem?_eq_getElem hjl⟩
    obtain ⟨q0, q1⟩ := HC.out j t htk
    have hcx0 : wr.cell? ⟨g, j * 2, none⟩ = some (.int .i64 (t.1 : Int)) := (hbel.cell (p := ⟨g, j * 2, none⟩) hgs).trans q0
    have hcx1 : wr.cell? ⟨g, j * 2 + 1, none⟩ = some (.int .i64 ((2 ^ t.2 : Nat) : Int)) := (hbel.cell (p := ⟨g, j * 2 + 1, none⟩) hgs).trans q1
    have hend := tr_in 0 n (by omega) hn (List.mem_of_getElem? htk)
    obtain ⟨z, hz⟩ : ∃ z : Nat, z = 2 ^ t.2 := ⟨_, rfl⟩
    rw [← hz] at hcx1 hend
    obtain ⟨y, hy⟩ : ∃ y : Nat, y = t.1 := ⟨_, rfl⟩
    rw [← hy] at hcx0 hend
    by_cases hjk : j = k
    · have hh := HA.out.get
      subst hjk
      rw [htk] at hh
      simp only [Option.some.injEq] at hh
      have hlt : i < y + z := by rw [hy, hz, hh]; exact HA.out.hi
      clear htk q0 q1 hz hy hh
      go_wp2_with fail
      go_ret
      exact ⟨rfl, balloc hbel _⟩
    · have hge : y + z ≤ i := by rw [hy, hz]; exact HA.out.before j (by omega) t htk
      have hge' : ¬ ((i : Int) < (y : Int) + (z : Int)) := by omega
      clear htk q0 q1 hz hy
      go_wp2_with fail
      go_roundw
      case rel => exact ⟨j + 1, by omega, by go_num, balloc hbel _⟩
      case measure => simp [intOf]; omega
theorem tproof_no {L : List Int} {i : Int} (h : ¬ (leavesB L = true ∧ 0 ≤ i ∧ i < L.length)) : tproof L i = [] := if_neg h
theorem tproof_yes {L : List Int} {i : Nat} (h : leavesB L = true) (hi : i < L.length) : tproof L (i : Int) = proofOf pr (lf L) L.length i := by
  unfold tproof; rw [if_pos ⟨h, by omega, by omega⟩]; rfl
theorem xor_words {m s : Nat} (hm : m ≤ 16) (hs : s ≤ 16) : bits .xor .i64 (m : Int) (s : Int) = ((m ^^^ s : Nat) : Int) := by
  have hx : m ^^^ s < 2 ^ 63 := Nat.xor_lt_two_pow (by omega) (by omega)
  show IntKind.i64.wrap ((BitVec.ofInt 64 (m : Int) ^^^ BitVec.ofInt 64 (s : Int)).toNat : Int) = _
  rw [BitVec.toNat_xor, BitVec.ofInt_natCast, BitVec.ofInt_natCast, BitVec.toNat_ofNat, BitVec.toNat_ofNat, Nat.mod_eq_of_lt (by omega), Nat.mod_eq_of_lt (by omega), IntKind.wrap_i64]
  omega
/-- the first part of a proof -/
def sibsOf (L : List Int) (i j : Nat) : List Int := (List.range j).map fun j => rt pr (lf L) j (sib i j)
theorem sibsOf_succ (L : List Int) (i j : Nat) : sibsOf L i (j + 1) = sibsOf L i j ++ [rt pr (lf L) j (sib i j)] := by
  unfold sibsOf; rw [List.range_succ, List.map_append]; rfl
theorem newrow_of3 {w w2 w' : World} {e : TypeId} {v : Value} {L : List Value} (h : OW w' w2.heap.size e v L) (b : Below w.heap.size w w2) (hb : Below w2.heap.size w2 w') : NewRow w e L (.returned v) w' :=
  ⟨v, rfl, (Row.of h).wide b.size (Nat.le_refl _), bstep b hb⟩
set_option maxHeartbeats 8000000 in
set_option maxRecDepth 100000 in
theorem iTreeProof_any (v : Value) (L : List Int) (i : Int) (w : World) (h : RV w w.heap.size v (L.map (Value.int .i64))) (hn : L.length ≤ 1048576) :
    Calls Try.prog 15 #[v, .int .i64 i] w (NewRow w 3 ((tproof L i).map (Value.int .i64))) := by
  have rr := h
  obtain ⟨A, cap, rfl, hl, hm, hc⟩ := h
  rw [List.length_map] at rr hl ⊢
  clear hc
  cases hb : leavesB L
  · have HP : Hid (tproof L i = []) := tproof_no fun hh => by rw [hb] at hh; cases hh.1
    rw [HP.out]
    go_enter Try.func15, Try.ntmps15
    (go_wp2_with fail; (with_reducible refine (areLeaves_b _ L _ _ false rr hn hb).mono ?_); rintro _ _ ⟨rfl, rfl⟩)
    go_wp2_with fail
    go_ret
    exact newrow_of (own_nil _ _ _) (Below.refl _ _)
  · obtain ⟨h16, hd⟩ := leavesB_len hb
    cases hin : inB i 0 ((L.length : Int) - 1)
    · have HP : Hid (tproof L i = []) := tproof_no fun hh => by rcases inB_false.1 hin with h1 | h1 <;> omega
      rw [HP.out]
      go_enter Try.func15, Try.ntmps15
      (go_wp2_with fail; (with_reducible refine (areLeaves_b _ L _ _ true rr hn hb).mono ?_); rintro _ _ ⟨rfl, rfl⟩)
      (go_wp2_with fail; (with_reducible refine (within_b i 0 ((L.length : Int) - 1) false _ hin).mono ?_); rintro _ _ ⟨rfl, rfl⟩)
      go_wp2_with fail
      go_ret
      exact newrow_of (own_nil _ _ _) (Below.refl _ _)
    · obtain ⟨i0, i1⟩ := inB_true.1 hin
      obtain ⟨m, rfl⟩ : ∃ m : Nat, i = (m : Int) := ⟨i.toNat, by omega⟩
      have hmn : m < L.length := by omega
      obtain ⟨k, a, ht, AT⟩ := at_ok L.length m h16 hmn
      have HP : Hid (tproof L (m : Int) = sibsOf L m ht ++ rts pr (lf L) ((tr 0 L.length).eraseIdx k)) := (tproof_yes hb hmn).trans (AT.proofOf pr (lf L))
      rw [HP.out]
      obtain ⟨i0', hii, hz0, hz1, hz2⟩ := info_parts infoInt
      have HAT := hid' AT
      have kl := AT.lt
      have k5 := AT.len
      have kh := AT.h4
      clear HP AT
      go_enter Try.func15, Try.ntmps15
      (go_wp2_with fail; (with_reducible refine (areLeaves_b _ L _ _ true rr hn hb).mono ?_); rintro _ _ ⟨rfl, rfl⟩)
      (go_wp2_with fail; (with_reducible refine (within_b (m : Int) 0 ((L.length : Int) - 1) true _ hin).mono ?_); rintro _ _ ⟨rfl, rfl⟩)
      (go_wp2_with fail; (with_reducible refine (treesFrom_0 L.length _ h16).mono ?_))
      rintro _ w1 ⟨vt, rfl, ot, b1⟩
      (go_wp2_with fail; (with_reducible refine (peakOf_any vt L.length m k a ht _ _ HAT.out h16 ot).mono ?_))
      rintro _ w2 ⟨rfl, b2⟩
      replace ot := OT.next ot b2 (Nat.le_refl _)
      have bb2 := bstep b1 b2
      have hwg := b1.size
      obtain ⟨Ad, ct, rfl, hct, hcc⟩ := ot_form ot
      obtain ⟨g, rfl, hgb, hgs, hcell⟩ := hcc (by omega)
      obtain ⟨q0, q1⟩ := hcell k (a, ht) HAT.out.get
      have HC := hid' hcell
      have kc1 : (k : Int) < ((tr 0 L.length).length : Int) := by omega
      have kc0 : (0 : Int) ≤ (k : Int) := by omega
      have rr2 := RV.mono (B' := w2.heap.size) (rr.below bb2 (Nat.le_refl _)) bb2.size
      clear hcc hcell b1 b2 ot q0 rr
      go_wp2_with fail
      go_loopw [7, 8] (fun x s wr => ∃ j : Nat, j ≤ ht ∧ s = .int .i64 ((2 ^ j : Nat) : Int) ∧ OW wr w2.heap.size 3 x ((sibsOf L m j).map (Value.int .i64)) ∧ Below w2.heap.size w2 wr) (fun _ s _ => 32 - (intOf s).toNat)
      case atStart => exact ⟨0, Nat.zero_le _, rfl, own_empty (Nat.le_refl _), bnew w2 _⟩
      case round =>
        obtain ⟨j, hj, rfl, hown, hbel⟩ := hrel
        have hcx1 : wr.cell? ⟨g, k * 2 + 1, none⟩ = some (.int .i64 ((2 ^ ht : Nat) : Int)) := (hbel.cell (p := ⟨g, k * 2 + 1, none⟩) hgs).trans q1
        have hp := @pow_lt j ht
        have b1 : 2 ^ j ≤ 16 := Nat.pow_le_pow_right (n := 2) (by decide) (Nat.le_trans hj kh)
        have b2 : 2 ^ ht ≤ 16 := Nat.pow_le_pow_right (n := 2) (by decide) kh
        have b3 : 1 ≤ 2 ^ j := Nat.pow_pos (by decide)
        by_cases hlt : j < ht
        · have hp' := hp.2 hlt
          obtain ⟨u1, u2, u3, u4, u5, u6⟩ := sib_words m j (by omega) (by omega)
          have hs := HAT.out.sibs j hlt
          obtain ⟨z, hz⟩ : ∃ z : Nat, z = 2 ^ j := ⟨_, rfl⟩
          obtain ⟨y, hy⟩ : ∃ y : Nat, y = 2 ^ ht := ⟨_, rfl⟩
          obtain ⟨d, hdv⟩ : ∃ d : Nat, d = m / 2 ^ j := ⟨_, rfl⟩
          obtain ⟨r, hr⟩ : ∃ r : Nat, r = sib m j := ⟨_, rfl⟩
          have HZ := hid' hz
          have HR := hid' hr
          rw [← hz] at b1 b3 hp' hs ⊢
          have hzne : ((z : Int) == 0) = false := beq_eq_false_iff_ne.2 (by omega)
          rw [← hy] at b2 hcx1 hp'
          rw [← hdv, ← hz] at u1 u6
          rw [← hr] at u1 hs
          have e1 : (m : Int).tdiv (z : Int) = (d : Int) := by rw [Int.tdiv_eq_ediv_of_nonneg (by omega), hdv, hz]; rfl
          have e1' : (m : Int) / (z : Int) = (d : Int) := by rw [hdv, hz]; rfl
          have hdl : d ≤ 16 := by rw [hdv]; exact Nat.le_trans (Nat.div_le_self _ _) (by omega)
          obtain ⟨c, hcz⟩ : ∃ c : Nat, c = d * z := ⟨_, rfl⟩
          rw [← hcz] at u1 u6
          have e2 : (d : Int) * (z : Int) = (c : Int) := by rw [hcz]; exact (Int.natCast_mul d z).symm
          have e3 : bits .xor .i64 (c : Int) (z : Int) = (r : Int) := by rw [xor_words u6 b1, u1]
          have hrw := rr2.below hbel (Nat.le_refl _)
          have hlen : ((sibsOf L m j).map (Value.int .i64)).length ≤ 64 := by unfold sibsOf; rw [List.length_map, List.length_map, List.length_range]; omega
          have HW := hid' (sibsOf_succ L m j)
          clear u1 u2 u3 u4 u5 hz hy hdv hr hcz hp
          go_wp2_with fail
          (with_reducible refine (root_any L _ w2.heap.size hd h16 j r (r : Int) (z : Int) _ hrw hbel.size (by rw [← HZ.out]; exact hs) rfl (by rw [HZ.out])).mono ?_)
          rintro _ w3 ⟨rfl, hb3⟩
          rw [HR.out]
          have hown3 := hown.next hb3 (Nat.le_refl _)
          have hbel3 := hbel.trans (hb3.mono hbel.size)
          go_wp2_with (at_builtin; refine wpList_push _ rfl _ _ 22 rfl w2.heap.size 3 i0' (.int .i64 0) 8 Try.underlying22 hii hz0 hz1 hz2 rfl _ _ rfl hown3 _ rfl rfl (by omega) (by decide) hbel3.size ?_; intro v' w4 hown4 hbel4)
          have hpw : ((2 ^ (j + 1) : Nat) : Int) = (z : Int) * 2 := by rw [Nat.pow_succ, ← HZ.out]; exact Int.natCast_mul z 2
          go_roundw
          case rel => exact ⟨j + 1, by omega, by rw [hpw], by rw [HW.out, List.map_append]; exact hown4, hbel3.trans hbel4⟩
          case measure => simp [intOf]; omega
        · have hp' : ¬ (2 ^ j < 2 ^ ht) := fun hh => hlt (hp.1 hh)
          have hjh : j = ht := by omega
          obtain ⟨z, hz⟩ : ∃ z : Nat, z = 2 ^ j := ⟨_, rfl⟩
          obtain ⟨y, hy⟩ : ∃ y : Nat, y = 2 ^ ht := ⟨_, rfl⟩
          rw [← hz] at b1 b3 hp' ⊢
          rw [← hy] at b2 hcx1 hp'
          rw [hjh] at hown
          clear hz hy hp hjh hlt
          go_wp2_with fail
          obtain ⟨w3, hw3⟩ : ∃ w3, w3 = wr := ⟨_, rfl⟩
          subst hw3
          have rr3 := rr2.below hbel (Nat.le_refl _)
          have hgs3 := Nat.lt_of_lt_of_le hgs hbel.size
          go_loopw [54, 7] (fun x r wr => ∃ j : Nat, j ≤ (tr 0 L.length).length ∧ x = .int .i64 j ∧ OW wr w2.heap.size 3 r ((sibsOf L m ht ++ rts pr (lf L) (((tr 0 L.length).take j).eraseIdx k)).map (Value.int .i64)) ∧ Below w2.heap.size w2 wr) (fun x _ _ => (tr 0 L.length).length - (intOf x).toNat)
          case atStart => exact ⟨0, Nat.zero_le _, rfl, by simp [rts]; exact hown, hbel⟩
          case round =>
            obtain ⟨j, hj, rfl, hown2, hbel2⟩ := hrel
            by_cases hlt : j < (tr 0 L.length).length
            · obtain ⟨t, htk⟩ : ∃ t, (tr 0 L.length)[j]? = some t := ⟨(tr 0 L.length)[j], List.getElem?_eq_getElem hlt⟩
              obtain ⟨q0, q1⟩ := HC.out j t htk
              have hle := tr_in 0 L.length (by omega) h16 (List.mem_of_getElem? htk)
              have hcx0 : wr.cell? ⟨g, j * 2, none⟩ = some (.int .i64 (t.1 : Int)) := (hbel2.cell (p := ⟨g, j * 2, none⟩) hgs).trans q0
              have hcx1 : wr.cell? ⟨g, j * 2 + 1, none⟩ = some (.int .i64 ((2 ^ t.2 : Nat) : Int)) := (hbel2.cell (p := ⟨g, j * 2 + 1, none⟩) hgs).trans q1
              obtain ⟨z, hz⟩ : ∃ z : Int, z = ((2 ^ t.2 : Nat) : Int) := ⟨_, rfl⟩
              rw [← hz] at hcx1
              obtain ⟨y, hy⟩ : ∃ y : Int, y = (t.1 : Int) := ⟨_, rfl⟩
              rw [← hy] at hcx0
              have HZ := hid' hz
              have HY := hid' hy
              have hrw := rr2.below hbel2 (Nat.le_refl _)
              have hs2 := hbel2.size
              by_cases hjk : j = k
              · have hn1 : ((j : Int) != (k : Int)) = false := by rw [hjk]; simp
                have hn2 : ((j : Int) == (k : Int)) = true := by rw [hjk]; simp
                have HE : Hid (((tr 0 L.length).take (j + 1)).eraseIdx k = ((tr 0 L.length).take j).eraseIdx k) := by unfold Hid; rw [hjk]; exact erase_same (by omega)
                clear htk q0 q1 hz hy hjk
                go_wp2_with fail
                go_roundw
                case rel => exact ⟨j + 1, by omega, by go_num, by rw [HE.out]; exact hown2.alloc _, balloc hbel2 _⟩
                case measure => simp [intOf]; omega
              · have hn1 : ((j : Int) != (k : Int)) = true := bne_iff_ne.2 (by omega)
                have hn2 : ((j : Int) == (k : Int)) = false := beq_eq_false_iff_ne.2 (by omega)
                have HE := hid' (erase_take htk hjk)
                have hlen : ((sibsOf L m ht ++ rts pr (lf L) (((tr 0 L.length).take j).eraseIdx k)).map (Value.int .i64)).length ≤ 64 := by
                  have h1 := List.length_eraseIdx_le ((tr 0 L.length).take j) k
                  rw [List.length_take] at h1
                  unfold sibsOf rts; simp only [List.length_map, List.length_append, List.length_range]; omega
                clear htk q0 q1 hz hy hjk
                go_wp2_with fail
                (with_reducible refine (root_any L _ w2.heap.size hd h16 t.2 t.1 y z _ (hrw.below (bnew wr _) hs2) (by simp; omega) hle HY.out HZ.out).mono ?_)
                rintro _ w4 ⟨rfl, hb4⟩
                have hb5 := bstep (balloc hbel2 (.cells #[.int .i64 y, .int .i64 z] 46)) hb4
                have hown4 := (OW.alloc hown2 (.cells #[.int .i64 y, .int .i64 z] 46)).next hb4 (Nat.le_refl _)
                go_wp2_with (at_builtin; refine wpList_push _ rfl _ _ 22 rfl w2.heap.size 3 i0' (.int .i64 0) 8 Try.underlying22 hii hz0 hz1 hz2 rfl _ _ rfl hown4 _ rfl rfl (by omega) (by decide) hb5.size ?_; intro v' w5 hown5 hbel5)
                go_roundw
                case rel => exact ⟨j + 1, by omega, by go_num, by rw [HE.out, rts_app, ← List.append_assoc, List.map_append]; exact hown5, hb5.trans hbel5⟩
                case measure => simp [intOf]; omega
            · have hj2 : (tr 0 L.length).take j = tr 0 L.length := List.take_of_length_le (by omega)
              rw [hj2] at hown2
              clear hj2
              go_wp2_with fail
              go_ret
              exact newrow_of3 hown2 bb2 hbel2
end Go.Proofs.Ytnhpilipkeddiaa
