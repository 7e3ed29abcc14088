/- What the function hands back that draws a proof of a fork. -/
import Derived.Test.YtcocknfdafmfnaaDrawD
import Derived.Test.YtcocknfdafmfnaaFork
import Derived.Test.YtcocknfdafmfnaaLawC3
import Derived.OneCell
import Derived.Deep.CutRange
namespace Go.Proofs.Ytcocknfdafmfnaa
set_option linter.unusedVariables false
open Go.RowKit

def fork7 (p la da sa lb db sb : Int) : Value := .agg #[.int .i64 p, .int .i64 la, .int .i64 da, .int .i64 sa, .int .i64 lb, .int .i64 db, .int .i64 sb]
theorem l91Good_any (g p : Nat) (w : World) (h : Rdr w g p) (hp : p ≤ 99000) : Calls Try.prog 33 #[.pointer (some ⟨g, 0, none⟩)] w fun e w' => ∃ s : Int, e = .returned (.int .i64 s) ∧ 1 ≤ s ∧ s ≤ 996 ∧ Rdr w' g (p + 2) ∧ w.grownBy w' (some g) := by
  go_enter Try.func33, Try.ntmps33
  go_wp2_with fail
  (with_reducible refine (pick_any g p 99 _ h (by omega) (by omega) (by omega)).mono ?_)
  rintro _ w1 ⟨x, rfl, x0, x1, h1, k1⟩
  go_wp2_with fail
  (with_reducible refine (pick_any g (p + 1) 6 _ h1 (by omega) (by omega) (by omega)).mono ?_)
  rintro _ w2 ⟨y, rfl, y0, y1, h2, k2⟩
  go_wp2_with fail
  go_ret
  exact ⟨1 + 10 * x + y, by go_num, by omega, by omega, h2, grown_trans k1 k2⟩
theorem set_below {w w1 : World} {B : Nat} {g i : Nat} {v : Value} (h : Below B w w1) (hg : B ≤ g) : Below B w (w1.setCell ⟨g, i, none⟩ v) := h.setCell hg v
theorem grown_setG {w w1 : World} {row : Option Nat} {q i : Nat} {v : Value} (h : w.grownBy w1 row) (hq : w.heap.size ≤ q) : w.grownBy (w1.setCell ⟨q, i, none⟩ v) row :=
  ⟨h.os, h.tape, h.output, by simpa using h.size, fun k hk hne => (heap_setCell_other w1 ⟨q, i, none⟩ k v (by show k ≠ q; omega)).trans (h.block k hk hne)⟩
theorem rdr_set {w : World} {g p q i : Nat} {v : Value} (h : Rdr w g p) (hq : g ≠ q) (hb : True) (hB : ∀ B, B ≤ q → Below B w (w.setCell ⟨q, i, none⟩ v)) (hg : g < q) : Rdr (w.setCell ⟨q, i, none⟩ v) g p := h.below (hB q (Nat.le_refl _)) hg
/-- some fork comes back, and the reader's block alone has turned -/
def AnyFork (g : Nat) (w : World) (e : Ending) (w' : World) : Prop := ∃ (p la da sa lb db sb : Int), e = .returned (fork7 p la da sa lb db sb) ∧ w.grownBy w' (some g)
def NotAt (v : Value) (g : Nat) : Prop := ∀ b off n c, v = .slice (some ⟨b, off, none⟩) n c → b ≠ g
theorem own_notAt {w : World} {base g : Nat} {e : TypeId} {v : Value} {L : List Value} (h : OW w base e v L) (hb : g < base) : NotAt v g := by
  rintro b off n c rfl
  rcases h.2 with ⟨hv, _⟩ | ⟨g', cap, cur, hv, hb', _⟩
  · cases hv
  · simp only [Value.slice.injEq, Option.some.injEq, Addr.mk.injEq] at hv
    omega
def FkO (w : World) (g pm b1 b2 : Nat) (vA vB : Value) (D : List Int) (wx : World) : Prop :=
  ∃ p' : Nat, p' ≤ pm ∧ Rdr wx g p' ∧ w.grownBy wx (some g) ∧ Box wx w.heap.size 26 #[.int .i64 0, .int .i64 0, .int .i64 0, .int .i64 0, .int .i64 0, .int .i64 0, .int .i64 0] ∧ OW wx b1 3 vA (D.map (Value.int .i64)) ∧ OW wx b2 3 vB (D.map (Value.int .i64)) ∧ b2 ≤ wx.heap.size ∧ (∀ k, vA.ownBlock = some k → k < b2)
def FkC (w : World) (g pm b1 b2 : Nat) (vA vB : Value) (D : List Int) (c : Value) (wx : World) : Prop := ∃ bb : Bool, c = .bool bb ∧ (bb = true → 0 < D.length) ∧ FkO w g pm b1 b2 vA vB D wx
def FkS (w : World) (g pm : Nat) (vA vB : Value) (D : List Int) (wx : World) : Prop :=
  ∃ (p' : Nat) (LB : List Int), p' ≤ pm ∧ Rdr wx g p' ∧ w.grownBy wx (some g) ∧ Box wx w.heap.size 26 #[.int .i64 0, .int .i64 0, .int .i64 0, .int .i64 0, .int .i64 0, .int .i64 0, .int .i64 0] ∧ RV wx wx.heap.size vA (D.map (Value.int .i64)) ∧ RV wx wx.heap.size vB (LB.map (Value.int .i64)) ∧ LB.length ≤ 28 ∧ NotAt vA g ∧ NotAt vB g
theorem rv_grownG {w w' : World} {g : Nat} {v : Value} {L : List Value} (h : RV w w.heap.size v L) (hk : w.grownBy w' (some g)) (hne : NotAt v g) : RV w' w'.heap.size v L := by
  obtain ⟨A, cap, hv, hl, hm, hc⟩ := h
  refine ⟨A, cap, hv, hl, hm, fun h0 => ?_⟩
  obtain ⟨b, off, hA, hb, hcell⟩ := hc h0
  refine ⟨b, off, hA, Nat.lt_of_lt_of_le hb hk.size, fun i u hi => hk.cell (hcell i u hi) ?_⟩
  have := hne b off L.length cap (by rw [hv, hA])
  simp; omega
set_option maxHeartbeats 16000000 in
set_option maxRecDepth 100000 in
theorem l91Fork_any (g p : Nat) (w : World) (h : Rdr w g p) (hp : p ≤ 80000) : Calls Try.prog 21 #[.pointer (some ⟨g, 0, none⟩)] w (AnyFork g w) := by
  have hgw := h.lt
  obtain ⟨j0, ji, jz0, jz1, jz2⟩ := info_parts infoInt
  have xr0 := Box.new w 26 #[.int .i64 0, .int .i64 0, .int .i64 0, .int .i64 0, .int .i64 0, .int .i64 0, .int .i64 0]
  have h0 := h.alloc (.cells #[.int .i64 0, .int .i64 0, .int .i64 0, .int .i64 0, .int .i64 0, .int .i64 0, .int .i64 0] 26)
  have G0 : w.grownBy (w.alloc (.cells #[.int .i64 0, .int .i64 0, .int .i64 0, .int .i64 0, .int .i64 0, .int .i64 0, .int .i64 0] 26)) (some g) := World.grownBy_alloc w _ _
  go_enter Try.func21, Try.ntmps21
  go_wp2_with fail
  (with_reducible refine (l91Good_any g p _ h0 (by omega)).mono ?_)
  rintro _ w1 ⟨s, rfl, s0, s1, h1, k1⟩
  have xr1 := xr0.grown k1 (by omega)
  have G1 := grown_trans G0 k1
  clear xr0 G0 h0 k1
  go_wp2_with fail
  (with_reducible refine (l91Leaves_any g (p + 2) _ h1 (by omega)).mono ?_)
  rintro _ w2 ⟨va, p2, rfl, hp2, h2, k2, D, hD, hlf, oa⟩
  have xr2 := xr1.grown k2 (by omega)
  have G2 := grown_trans G1 k2
  have sz2 := k2.size
  have hg1 := h1.lt
  have hr1 := xr1.lt
  clear xr1 k2 h1 G1
  obtain ⟨A2, c2, rfl, hl2, hm2, hc2⟩ := rv_intsC oa.rv
  have rv' : RV (w2.alloc (.cells #[] 3)) w2.heap.size (.slice A2 D.length c2) (D.map (Value.int .i64)) := oa.rv.below (bnew w2 _) (Nat.le_refl _)
  clear hc2
  have la : ∀ k, Value.ownBlock (.slice A2 D.length c2) = some k → k < w2.heap.size := fun k hk => (World.ownsRow.lt oa k hk).2
  go_upto_region 4 with (at_builtin; refine wpList_append_rv _ rfl _ _ 33 rfl w2.heap.size 3 j0 (.int .i64 0) 8 Try.underlying33 ji jz0 jz1 jz2 rfl _ _ rfl (own_empty (Nat.le_refl w2.heap.size)) _ rfl _ _ rv' (one_ints _) (by rw [List.length_map]; simp; omega) (by decide) (by simp) ?_; intro v3 w3 o3 b3; simp only [List.nil_append] at o3; obtain ⟨A3, c3, rfl, hl3, hm3, hc3⟩ := rv_intsC o3.rv; clear hc3)
  have b23 : Below w2.heap.size w2 w3 := ((Below.refl _ _).alloc (Nat.le_refl _) _).trans b3
  have xr3 := xr2.next b23
  have h3 := h2.below b23 h2.lt
  have oa3 := oa.next b23 (Nat.le_refl _)
  have G3 := grown_belowC G2 (b23.mono G2.size)
  have sz3 := b23.size
  clear b3 b23 xr2 h2 oa G2 rv'
  go_cut [21] from 7 to 66 (fun c wx => FkC w g (p2 + 1) w1.heap.size w2.heap.size (.slice A2 D.length c2) (.slice A3 D.length c3) D c wx)
  case first =>
    by_cases hD0 : D.length = 0
    · have hz : (D.length : Int) ≤ 0 := by omega
      clear hD0
      go_wp2_with fail
      go_meet
      case rel => exact show FkC _ _ _ _ _ _ _ _ _ _ from ⟨false, rfl, (by intro h; cases h), p2, by omega, h3, G3, xr3, oa3, o3, sz3, la⟩
    · have hz : (0 : Int) < (D.length : Int) := by omega
      have hzn : 0 < D.length := by omega
      clear hD0
      go_wp2_with fail
      (with_reducible refine (pick_any g p2 5 _ h3 (by omega) (by omega) (by omega)).mono ?_)
      rintro _ w4 ⟨y, rfl, y0, y1, h4, k4⟩
      have xr4 := xr3.grown k4 (by omega)
      have G4 := grown_trans G3 k4
      have o4 := own_grown o3 k4 (by omega)
      have oa4 := own_grown oa3 k4 (by omega)
      have sz4 := Nat.le_trans sz3 k4.size
      obtain ⟨bb, hbb⟩ : ∃ bb, decide (0 < y) = bb := ⟨_, rfl⟩
      have hbb2 : decide (y > 0) = bb := hbb
      go_wp2_with fail
      go_meet
      case rel => exact show FkC _ _ _ _ _ _ _ _ _ _ from ⟨bb, by first | rfl | (rw [← hbb]) | (simp [hbb]), fun _ => hzn, p2 + 1, by omega, h4, G4, xr4, oa4, o4, sz4, la⟩
  case rest =>
  obtain ⟨bb, rfl, hpos, p4, hp4, h4, G4, xr4, oa4, o4, sz4, _⟩ := hcut
  clear oa3 o3 xr3 G3 h3
  have h4lt := h4.lt
  go_upto_if 21 with fail
  go_cut [] from 7 to 66 (fun wx => FkS w g (p2 + 3) (.slice A2 D.length c2) (.slice A3 D.length c3) D wx)
  case first =>
    cases bb
    · go_wp2_with fail
      go_meet
      case rel => exact show FkS _ _ _ _ _ _ _ from ⟨p4, D, by omega, h4, G4, xr4, oa4.rv, o4.rv, hD, own_notAt oa4 (by omega), own_notAt o4 (by omega)⟩
    · have hz : (0 : Int) < (D.length : Int) := by have := hpos rfl; omega
      have hzn : 0 < D.length := by omega
      clear hpos
      go_wp2_with fail
      (with_reducible refine (pick_any g p4 (D.length : Int) _ h4 (by omega) (by omega) (by omega)).mono ?_)
      rintro _ w5 ⟨z, rfl, z0, z1, h5, k5⟩
      obtain ⟨m, rfl⟩ : ∃ m : Nat, z = (m : Int) := ⟨z.toNat, by omega⟩
      go_wp2_with fail
      (with_reducible refine (pick_any g (p4 + 1) 99 _ h5 (by omega) (by omega) (by omega)).mono ?_)
      rintro _ w6 ⟨u, rfl, u0, u1, h6, k6⟩
      have k56 := grown_trans k5 k6
      have xr6 := xr4.grown k56 (by omega)
      have G6 := grown_trans G4 k56
      have o6 := own_grown o4 k56 (by omega)
      have oa6 := own_grown oa4 k56 (by omega)
      have sz6 := k56.size
      clear k5 k6 k56 xr4 G4 o4 oa4 h4 h5
      obtain ⟨x, hx⟩ : ∃ x, D[m]? = some x := ⟨D[m], List.getElem?_eq_getElem (by omega)⟩
      obtain ⟨gb, cb, hvb, hcb, l1, l2, lb, l3⟩ := own_atC (con := Value.int .i64) (D := D) o6 hx
      simp only [Value.slice.injEq] at hvb
      obtain ⟨rfl, _, rfl⟩ := hvb
      obtain ⟨l4, l5⟩ := l3 (10 * u)
      have xr7 := xr6.setOther (g := gb) (i := m) (v := .int .i64 (10 * u)) (by omega)
      have h7 := h6.below (l5.mono (show g + 1 ≤ w2.heap.size by omega)) (show g < g + 1 by omega)
      have oa7 := ownsRow_setCell_other oa6 (a := ⟨gb, m, none⟩) (fun e => by have := la gb e; omega) (.int .i64 (10 * u))
      have G7 : w.grownBy (w6.setCell ⟨gb, m, none⟩ (.int .i64 (10 * u))) (some g) := grown_setG G6 (by omega)
      have FIN := hid' (show FkS w g (p2 + 3) (.slice A2 D.length c2) (.slice (some ⟨gb, 0, none⟩) D.length c3) D (w6.setCell ⟨gb, m, none⟩ (.int .i64 (10 * u))) from ⟨p4 + 1 + 1, D.set m (10 * u), by omega, h7, G7, xr7, OW.rv (OW.len oa7), l4.rv, by rw [List.length_set]; exact hD, own_notAt oa6 (by omega), own_notAt l4 (by omega)⟩)
      clear hx l3 l4 l5 o6 xr6 h6 oa6 G6 xr7 h7 oa7 G7
      go_wp2_with fail
      go_meet
      case rel => exact FIN.out
  case rest =>
  obtain ⟨p5, LB5, hp5, h5, G5, xr5, rA5, rB5, hLB5, nA, nB⟩ := hcut
  clear oa4 o4 xr4 G4 h4 sz4
  go_wp2_with fail
  (with_reducible refine (pick_any g p5 6 _ h5 (by omega) (by omega) (by omega)).mono ?_)
  rintro _ w6 ⟨e, rfl, e0, e1, h6, k6⟩
  have xr6 := xr5.grown k6 (by omega)
  have G6 := grown_trans G5 k6
  have rA6 := rv_grownG rA5 k6 nA
  have rB6 := rv_grownG rB5 k6 nB
  clear k6 xr5 G5 rA5 rB5 h5
  go_upto_if 33 with fail
  go_cut [5] from 7 to 66 (fun vb wx => FkS w g (p2 + 64) (.slice A2 D.length c2) vb D wx)
  case first =>
    by_cases he : e = 0
    · have he0 : (e == (0 : Int)) = true := beq_iff_eq.2 he
      clear he
      go_wp2_with fail
      (with_reducible refine (l91Leaves_any g (p5 + 1) _ h6 (by omega)).mono ?_)
      rintro _ wT ⟨vB, pT, rfl, hpT, hT, kT, LB, hLB, _, obT⟩
      have hgw6 := h6.lt
      have FIN := hid' (show FkS w g (p2 + 64) (.slice A2 D.length c2) vB D wT from ⟨pT, LB, by omega, hT, grown_trans G6 kT, xr6.grown kT (by omega), rv_grownG rA6 kT nA, obT.rv, hLB, nA, own_notAt obT hgw6⟩)
      clear kT xr6 G6 rA6 rB6 h6 hT obT
      go_wp2_with fail
      go_meet
      case rel => exact FIN.out
    · have he0 : (e == (0 : Int)) = false := beq_eq_false_iff_ne.2 he
      clear he
      go_wp2_with fail
      go_meet
      case rel => exact show FkS _ _ _ _ _ _ _ from ⟨p5 + 1, LB5, by omega, h6, G6, xr6, rA6, rB6, hLB5, nA, nB⟩
  case rest =>
  obtain ⟨pT, LB, hpT, hT, GT, xrT, rA, rB, hLB, _, _⟩ := hcut
  clear rA6 rB6 xr6 G6 h6
  have hLB' : LB.length ≤ 1048576 := by omega
  (go_wp2_with fail; (with_reducible refine (sHeadPublic_any s _).mono ?_); rintro _ _ ⟨rfl, rfl⟩)
  obtain ⟨pb, hpb⟩ : ∃ pb, hpub s = pb := ⟨_, rfl⟩
  rw [hpb]
  clear hpb
  have xq := Box.new wc 26 #[.int .i64 pb, .int .i64 0, .int .i64 0, .int .i64 0, .int .i64 0, .int .i64 0, .int .i64 0]
  have bq := bnew wc (.cells #[.int .i64 pb, .int .i64 0, .int .i64 0, .int .i64 0, .int .i64 0, .int .i64 0, .int .i64 0] 26)
  have rAq := rA.below bq (Nat.le_refl _)
  have rBq := rB.below bq (Nat.le_refl _)
  have hgW := hT.lt
  have hrW := xrT.lt
  go_wp2_with fail
  obtain ⟨q, hq⟩ : ∃ q, q = wc.heap.size := ⟨_, rfl⟩
  have hq1 : w.heap.size < q := by omega
  have hq2 : g < q := by omega
  rw [← hq] at xq bq rAq rBq ⊢
  have hqW : wc.heap.size ≤ q := by omega
  clear hq
  have hqs := xq.lt
  (with_reducible refine (sHeadMake_any s _ D _ (RV.mono rAq (Nat.le_of_lt hqs)) (by omega)).mono ?_)
  rintro _ w8 ⟨a1, a2, a3, ok1, rfl, b8⟩
  unfold head3
  have xq8 := xq.next b8
  have bq8 := bq.trans (b8.mono (Nat.le_of_lt hqs))
  have rB8 := rB.below bq8 (by omega)
  clear xq bq rAq rBq b8 rA rB
  obtain ⟨c0, c1, c2_, c3_, c4, c5, c6⟩ := xq8.c7
  have f1 := xq8.frozen 1
  have f2 := xq8.frozen 2
  have f3 := xq8.frozen 3
  have xq9 := ((xq8.set 1 (.int .i64 a1)).set 2 (.int .i64 a2)).set 3 (.int .i64 a3)
  change Box _ _ _ #[.int .i64 pb, .int .i64 a1, .int .i64 a2, .int .i64 a3, .int .i64 0, .int .i64 0, .int .i64 0] at xq9
  have bq9 := set_below (i := 3) (v := .int .i64 a3) (set_below (i := 2) (v := .int .i64 a2) (set_below (i := 1) (v := .int .i64 a1) bq8 (Nat.le_refl _)) (Nat.le_refl _)) (Nat.le_refl _)
  have hq9 := xq9.lt
  have rB9 := RV.mono (B' := (((w8.setCell ⟨q, 1, none⟩ (.int .i64 a1)).setCell ⟨q, 2, none⟩ (.int .i64 a2)).setCell ⟨q, 3, none⟩ (.int .i64 a3)).heap.size) (rB8.below (set_below (i := 3) (v := .int .i64 a3) (set_below (i := 2) (v := .int .i64 a2) (set_below (i := 1) (v := .int .i64 a1) (Below.refl q w8) (Nat.le_refl _)) (Nat.le_refl _)) (Nat.le_refl _)) (by omega)) (by omega)
  have XQ9 := hid' xq9
  have BQ9 := hid' bq9
  clear xq8 bq8 rB8 xq9 bq9
  go_wp2_with fail
  (with_reducible refine (sHeadMake_any s _ _ _ rB9 hLB').mono ?_)
  rintro _ w10 ⟨b1, b2, b3, ok2, rfl, b10⟩
  unfold head3
  have xq10 := XQ9.out.next b10
  have bq10 := BQ9.out.trans (b10.mono (Nat.le_of_lt hq9))
  clear rB9 b10 XQ9 BQ9 c0 c1 c2_ c3_ c4 c5 c6 f1 f2 f3
  obtain ⟨c0, c1, c2_, c3_, c4, c5, c6⟩ := xq10.c7
  have f4 := xq10.frozen 4
  have f5 := xq10.frozen 5
  have f6 := xq10.frozen 6
  have xq11 := ((xq10.set 4 (.int .i64 b1)).set 5 (.int .i64 b2)).set 6 (.int .i64 b3)
  change Box _ _ _ #[.int .i64 pb, .int .i64 a1, .int .i64 a2, .int .i64 a3, .int .i64 b1, .int .i64 b2, .int .i64 b3] at xq11
  have bq11 := set_below (i := 6) (v := .int .i64 b3) (set_below (i := 5) (v := .int .i64 b2) (set_below (i := 4) (v := .int .i64 b1) bq10 (Nat.le_refl _)) (Nat.le_refl _)) (Nat.le_refl _)
  have h11 := hT.below bq11 hq2
  have XQ := hid' xq11
  have XR := hid' (xrT.below bq11 hq1)
  have GG := hid' (grown_belowC GT (bq11.mono (Nat.le_of_lt hq1)))
  clear xq10 bq10 xq11 bq11 hT xrT GT
  go_wp2_with fail
  (with_reducible refine (pick_any g pT 12 _ h11 (by omega) (by omega) (by omega)).mono ?_)
  rintro _ w12 ⟨i2, rfl, i20, i21, h12, k12⟩
  have xq12 := XQ.out.grown k12 (by omega)
  have xr12 := XR.out.grown k12 (by omega)
  have G12 := grown_trans GG.out k12
  clear XQ XR GG k12 h11 c0 c1 c2_ c3_ c4 c5 c6 f4 f5 f6
  rcases (show i2 = 0 ∨ i2 = 1 ∨ 2 ≤ i2 by omega) with rfl | rfl | hi2
  · go_wp2_with fail
    (with_reducible refine (l91Secret_any g _ _ h12 (by omega)).mono ?_)
    rintro _ w13 ⟨_, p13, rfl, hp13, h13, k13, t, rfl, _, _⟩
    have xq13 := xq12.grown k13 (by omega)
    have xr13 := xr12.grown k13 (by omega)
    have G13 := grown_trans G12 k13
    have e0_ := xq13.frozen 0
    have e1_ := xq13.c7.1
    have xq14 := xq13.set 0 (.int .i64 t)
    change Box _ _ _ #[.int .i64 t, .int .i64 a1, .int .i64 a2, .int .i64 a3, .int .i64 b1, .int .i64 b2, .int .i64 b3] at xq14
    have xr14 := xr13.setOther (g := q) (i := 0) (v := .int .i64 t) (by omega)
    have G14 := grown_setG (q := q) (i := 0) (v := .int .i64 t) G13 (Nat.le_of_lt hq1)
    obtain ⟨m0, m1, m2, m3, m4, m5, m6⟩ := xq14.c7
    obtain ⟨n0, n1, n2, n3, n4, n5, n6⟩ := xr14.c7
    have u0 := xr14.frozen 0
    have u1 := xr14.frozen 1
    have u2 := xr14.frozen 2
    have u3 := xr14.frozen 3
    have u4 := xr14.frozen 4
    have u5 := xr14.frozen 5
    have u6 := xr14.frozen 6
    have z3 := (((((((xr14.set 0 (.int .i64 t)).set 1 (.int .i64 a1)).set 2 (.int .i64 a2)).set 3 (.int .i64 a3)).set 4 (.int .i64 b1)).set 5 (.int .i64 b2)).set 6 (.int .i64 b3))
    change Box _ _ _ #[.int .i64 t, .int .i64 a1, .int .i64 a2, .int .i64 a3, .int .i64 b1, .int .i64 b2, .int .i64 b3] at z3
    obtain ⟨v0, v1, v2, v3, v4, v5, v6⟩ := z3.c7
    have V0 := hid' v0
    have V1 := hid' v1
    have V2 := hid' v2
    have V3 := hid' v3
    have V4 := hid' v4
    have V5 := hid' v5
    have V6 := hid' v6
    have GF := hid' (grown_setG (q := w.heap.size) (i := 6) (v := .int .i64 b3) (grown_setG (q := w.heap.size) (i := 5) (v := .int .i64 b2) (grown_setG (q := w.heap.size) (i := 4) (v := .int .i64 b1) (grown_setG (q := w.heap.size) (i := 3) (v := .int .i64 a3) (grown_setG (q := w.heap.size) (i := 2) (v := .int .i64 a2) (grown_setG (q := w.heap.size) (i := 1) (v := .int .i64 a1) (grown_setG (q := w.heap.size) (i := 0) (v := .int .i64 t) (G14) (Nat.le_refl _)) (Nat.le_refl _)) (Nat.le_refl _)) (Nat.le_refl _)) (Nat.le_refl _)) (Nat.le_refl _)) (Nat.le_refl _))
    clear v0 v1 v2 v3 v4 v5 v6 z3
    go_wp2_with fail
    refine bodyPost_ret (v := fork7 t a1 a2 a3 b1 b2 b3) (by have v0 := V0.out; have v1 := V1.out; have v2 := V2.out; have v3 := V3.out; have v4 := V4.out; have v5 := V5.out; have v6 := V6.out; simp [results, Try.results21, go_sem, fork7, v0, v1, v2, v3, v4, v5, v6]) rfl ⟨_, _, _, _, _, _, _, rfl, GF.out⟩
  · go_wp2_with fail
    (with_reducible refine (l91Secret_any g _ _ h12 (by omega)).mono ?_)
    rintro _ w13 ⟨_, p13, rfl, hp13, h13, k13, t, rfl, _, _⟩
    have xq13 := xq12.grown k13 (by omega)
    have xr13 := xr12.grown k13 (by omega)
    have G13 := grown_trans G12 k13
    have e0_ := xq13.frozen 6
    have e1_ := xq13.c7.2.2.2.2.2.2
    have xq14 := xq13.set 6 (.int .i64 t)
    change Box _ _ _ #[.int .i64 pb, .int .i64 a1, .int .i64 a2, .int .i64 a3, .int .i64 b1, .int .i64 b2, .int .i64 t] at xq14
    have xr14 := xr13.setOther (g := q) (i := 6) (v := .int .i64 t) (by omega)
    have G14 := grown_setG (q := q) (i := 6) (v := .int .i64 t) G13 (Nat.le_of_lt hq1)
    obtain ⟨m0, m1, m2, m3, m4, m5, m6⟩ := xq14.c7
    obtain ⟨n0, n1, n2, n3, n4, n5, n6⟩ := xr14.c7
    have u0 := xr14.frozen 0
    have u1 := xr14.frozen 1
    have u2 := xr14.frozen 2
    have u3 := xr14.frozen 3
    have u4 := xr14.frozen 4
    have u5 := xr14.frozen 5
    have u6 := xr14.frozen 6
    have z3 := (((((((xr14.set 0 (.int .i64 pb)).set 1 (.int .i64 a1)).set 2 (.int .i64 a2)).set 3 (.int .i64 a3)).set 4 (.int .i64 b1)).set 5 (.int .i64 b2)).set 6 (.int .i64 t))
    change Box _ _ _ #[.int .i64 pb, .int .i64 a1, .int .i64 a2, .int .i64 a3, .int .i64 b1, .int .i64 b2, .int .i64 t] at z3
    obtain ⟨v0, v1, v2, v3, v4, v5, v6⟩ := z3.c7
    have V0 := hid' v0
    have V1 := hid' v1
    have V2 := hid' v2
    have V3 := hid' v3
    have V4 := hid' v4
    have V5 := hid' v5
    have V6 := hid' v6
    have GF := hid' (grown_setG (q := w.heap.size) (i := 6) (v := .int .i64 t) (grown_setG (q := w.heap.size) (i := 5) (v := .int .i64 b2) (grown_setG (q := w.heap.size) (i := 4) (v := .int .i64 b1) (grown_setG (q := w.heap.size) (i := 3) (v := .int .i64 a3) (grown_setG (q := w.heap.size) (i := 2) (v := .int .i64 a2) (grown_setG (q := w.heap.size) (i := 1) (v := .int .i64 a1) (grown_setG (q := w.heap.size) (i := 0) (v := .int .i64 pb) (G14) (Nat.le_refl _)) (Nat.le_refl _)) (Nat.le_refl _)) (Nat.le_refl _)) (Nat.le_refl _)) (Nat.le_refl _)) (Nat.le_refl _))
    clear v0 v1 v2 v3 v4 v5 v6 z3
    go_wp2_with fail
    refine bodyPost_ret (v := fork7 pb a1 a2 a3 b1 b2 t) (by have v0 := V0.out; have v1 := V1.out; have v2 := V2.out; have v3 := V3.out; have v4 := V4.out; have v5 := V5.out; have v6 := V6.out; simp [results, Try.results21, go_sem, fork7, v0, v1, v2, v3, v4, v5, v6]) rfl ⟨_, _, _, _, _, _, _, rfl, GF.out⟩
  · have i22 : (i2 == (0 : Int)) = false := beq_eq_false_iff_ne.2 (by omega)
    have i23 : (i2 == (1 : Int)) = false := beq_eq_false_iff_ne.2 (by omega)
    obtain ⟨m0, m1, m2, m3, m4, m5, m6⟩ := xq12.c7
    obtain ⟨n0, n1, n2, n3, n4, n5, n6⟩ := xr12.c7
    have u0 := xr12.frozen 0
    have u1 := xr12.frozen 1
    have u2 := xr12.frozen 2
    have u3 := xr12.frozen 3
    have u4 := xr12.frozen 4
    have u5 := xr12.frozen 5
    have u6 := xr12.frozen 6
    have z3 := (((((((xr12.set 0 (.int .i64 pb)).set 1 (.int .i64 a1)).set 2 (.int .i64 a2)).set 3 (.int .i64 a3)).set 4 (.int .i64 b1)).set 5 (.int .i64 b2)).set 6 (.int .i64 b3))
    change Box _ _ _ #[.int .i64 pb, .int .i64 a1, .int .i64 a2, .int .i64 a3, .int .i64 b1, .int .i64 b2, .int .i64 b3] at z3
    obtain ⟨v0, v1, v2, v3, v4, v5, v6⟩ := z3.c7
    have V0 := hid' v0
    have V1 := hid' v1
    have V2 := hid' v2
    have V3 := hid' v3
    have V4 := hid' v4
    have V5 := hid' v5
    have V6 := hid' v6
    have GF := hid' (grown_setG (q := w.heap.size) (i := 6) (v := .int .i64 b3) (grown_setG (q := w.heap.size) (i := 5) (v := .int .i64 b2) (grown_setG (q := w.heap.size) (i := 4) (v := .int .i64 b1) (grown_setG (q := w.heap.size) (i := 3) (v := .int .i64 a3) (grown_setG (q := w.heap.size) (i := 2) (v := .int .i64 a2) (grown_setG (q := w.heap.size) (i := 1) (v := .int .i64 a1) (grown_setG (q := w.heap.size) (i := 0) (v := .int .i64 pb) (G12) (Nat.le_refl _)) (Nat.le_refl _)) (Nat.le_refl _)) (Nat.le_refl _)) (Nat.le_refl _)) (Nat.le_refl _)) (Nat.le_refl _))
    clear v0 v1 v2 v3 v4 v5 v6 z3
    go_wp2_with fail
    refine bodyPost_ret (v := fork7 pb a1 a2 a3 b1 b2 b3) (by have v0 := V0.out; have v1 := V1.out; have v2 := V2.out; have v3 := V3.out; have v4 := V4.out; have v5 := V5.out; have v6 := V6.out; simp [results, Try.results21, go_sem, fork7, v0, v1, v2, v3, v4, v5, v6]) rfl ⟨_, _, _, _, _, _, _, rfl, GF.out⟩
end Go.Proofs.Ytcocknfdafmfnaa
