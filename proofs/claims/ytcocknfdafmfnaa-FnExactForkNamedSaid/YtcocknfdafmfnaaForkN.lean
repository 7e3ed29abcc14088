/- The walks of ForkNamed. -/
import Derived.Test.YtcocknfdafmfnaaPlainF
import Derived.Test.YtcocknfdafmfnaaFork
import Derived.Test.YtcocknfdafmfnaaPush
import Derived.LoopTactic
import Derived.Sort.OwnSortedInts
import Derived.Lib.OwnBridge
import Derived.Test.YtcocknfdafmfnaaShelf
namespace Go.Proofs.Ytcocknfdafmfnaa
set_option linter.unusedVariables false
open Go.RowKit

def FK.cells (f : FK) : List Value := [.int .i64 f.p, .int .i64 f.la, .int .i64 f.da, .int .i64 f.sa, .int .i64 f.lb, .int .i64 f.db, .int .i64 f.sb]
/-- the slice value v has the elements F, seven cells each, in memory below B -/
def RF (w : World) (B : Nat) (v : Value) (F : List FK) : Prop :=
  ∃ A cap, v = .slice A F.length cap ∧ F.length ≤ cap ∧ cap ≤ maxLen ∧
    (0 < F.length → ∃ b off, A = some ⟨b, off, none⟩ ∧ b < B ∧ ∀ i f, F[i]? = some f → ∀ j u, f.cells[j]? = some u → w.cell? ⟨b, off + i * 7 + j, none⟩ = some u)
theorem RF.below {w w' : World} {B B0 : Nat} {v : Value} {F : List FK} (h : RF w B v F) (hb : Below B0 w w') (hB : B ≤ B0) : RF w' B v F := by
  obtain ⟨A, cap, hv, hl, hm, hc⟩ := h
  refine ⟨A, cap, hv, hl, hm, fun h0 => ?_⟩
  obtain ⟨b, off, hA, hbB, hcell⟩ := hc h0
  exact ⟨b, off, hA, hbB, fun i f hi j u hu => (hb.cell (p := ⟨b, off + i * 7 + j, none⟩) (by show b < B0; omega)).trans (hcell i f hi j u hu)⟩
theorem RF.mono {w : World} {B B' : Nat} {v : Value} {F : List FK} (h : RF w B v F) (hB : B ≤ B') : RF w B' v F := by
  obtain ⟨A, cap, hv, hl, hm, hc⟩ := h
  refine ⟨A, cap, hv, hl, hm, fun h0 => ?_⟩
  obtain ⟨b, off, hA, hbB, hcell⟩ := hc h0
  exact ⟨b, off, hA, by omega, hcell⟩
theorem rf_c7 {w : World} {b off i : Nat} {f : FK} (h : ∀ j u, f.cells[j]? = some u → w.cell? ⟨b, off + i * 7 + j, none⟩ = some u) :
    w.cell? ⟨b, off + i * 7, none⟩ = some (.int .i64 f.p) ∧ w.cell? ⟨b, off + i * 7 + 1, none⟩ = some (.int .i64 f.la) ∧ w.cell? ⟨b, off + i * 7 + 2, none⟩ = some (.int .i64 f.da) ∧ w.cell? ⟨b, off + i * 7 + 3, none⟩ = some (.int .i64 f.sa) ∧ w.cell? ⟨b, off + i * 7 + 4, none⟩ = some (.int .i64 f.lb) ∧ w.cell? ⟨b, off + i * 7 + 5, none⟩ = some (.int .i64 f.db) ∧ w.cell? ⟨b, off + i * 7 + 6, none⟩ = some (.int .i64 f.sb) :=
  ⟨h 0 _ rfl, h 1 _ rfl, h 2 _ rfl, h 3 _ rfl, h 4 _ rfl, h 5 _ rfl, h 6 _ rfl⟩
def FnR (F : List FK) (w : World) (p x : Value) (wr : World) : Prop :=
  ∃ k : Nat, k ≤ F.length ∧ x = .int .i64 k ∧ OW wr w.heap.size 3 p ((keysF (F.take k)).map (Value.int .i64)) ∧ Below w.heap.size w wr ∧ (keysF (F.take k) = [] → p = .slice (some ⟨w.heap.size, 0, none⟩) 0 0)
theorem sort_any (base g cap : Nat) (L : List Int) (w : World) (h : OW w base 3 (.slice (some ⟨g, 0, none⟩) L.length cap) (L.map (Value.int .i64))) (hB : base ≤ w.heap.size) (hn : L.length ≤ 1048576) :
    Calls Try.prog 30 #[.slice (some ⟨g, 0, none⟩) L.length cap] w fun e w' => e = .returned (.tuple #[]) ∧ OW w' base 3 (.slice (some ⟨g, 0, none⟩) L.length cap) ((sortI L).map (Value.int .i64)) ∧ Below base w w' := by
  have h' := h
  unfold OW at h'
  rw [List.length_map] at h'
  obtain ⟨g', cap', hv, hbg, hgl, hnc, hcm, hlen, hH⟩ := Go.Lib.holds_of_ownsRow h' (by simp)
  simp only [Value.slice.injEq, Option.some.injEq, Addr.mk.injEq] at hv
  obtain ⟨⟨rfl, _, _⟩, _, rfl⟩ := hv
  refine (Try.slices_Sort_int g 0 cap L w hH hgl (by omega)).mono ?_
  rintro e w' ⟨rfl, n, os, rfl⟩
  rcases h'.2 with ⟨h0, _⟩ | ⟨g', cap', cur, hv, hbase, hb, h1, h2, h3, h4⟩
  · cases h0
  · simp only [Value.slice.injEq, Option.some.injEq, Addr.mk.injEq] at hv
    obtain ⟨⟨rfl, _, _⟩, _, rfl⟩ := hv
    have hs := ownsRow_sortedI (n := n) (os := os) (ss := L) (ts := sortI L) (sortI_len L) hbase hb h1 h2 h3
    refine ⟨rfl, ?_, (Below.refl base w).grown (grownBy_sortedI _) hB (fun j hj => by cases hj; exact hbase)⟩
    unfold OW
    rw [List.length_map, sortI_len]; exact hs
theorem compact_any (base g cap : Nat) (L : List Int) (w : World) (h : OW w base 3 (.slice (some ⟨g, 0, none⟩) L.length cap) (L.map (Value.int .i64))) (hB : base ≤ w.heap.size) (hn : L.length ≤ 1048576) :
    Calls Try.prog 31 #[.slice (some ⟨g, 0, none⟩) L.length cap] w fun e w' => e = .returned (.slice (some ⟨g, 0, none⟩) (Go.Lib.compact L).length cap) ∧ OW w' base 3 (.slice (some ⟨g, 0, none⟩) (Go.Lib.compact L).length cap) ((Go.Lib.compact L).map (Value.int .i64)) ∧ Below base w w' := by
  have h' := h
  unfold OW at h'
  rw [List.length_map] at h'
  obtain ⟨g', cap', hv, hbg, hgl, hnc, hcm, hlen, hH⟩ := Go.Lib.holds_of_ownsRow h' (by simp)
  simp only [Value.slice.injEq, Option.some.injEq, Addr.mk.injEq] at hv
  obtain ⟨⟨rfl, _, _⟩, _, rfl⟩ := hv
  refine (Try.slices_Compact_int g 0 cap L w hH (by omega) hnc).mono ?_
  rintro e w' ⟨rfl, q, rfl⟩
  have hle := Go.Lib.compact_length_le L
  have hc := Go.Lib.ownsRow_putRow (q := q) (k := (Go.Lib.compact L).length) (ys := Go.Lib.compact L ++ List.replicate (L.length - (Go.Lib.compact L).length) 0) h' (by simp; omega) hle
  rw [List.take_left] at hc
  refine ⟨rfl, ?_, Go.Lib.below_putRow (Below.refl base w) hbg⟩
  unfold OW
  rw [List.length_map]; exact hc
set_option maxHeartbeats 8000000 in
set_option maxRecDepth 100000 in
theorem iForkNamed_any (v : Value) (F : List FK) (B : Nat) (w : World) (h : RF w B v F) (hB : B ≤ w.heap.size) (hn : F.length ≤ 1048576) :
    Calls Try.prog 14 #[v] w (NewRow w 3 ((named F).map (Value.int .i64))) := by
  obtain ⟨A, cap, rfl, hl, hm, hc⟩ := h
  obtain ⟨j0, ji, jz0, jz1, jz2⟩ := info_parts infoInt
  have HC := hid' hc
  clear hc
  go_enter Try.func14, Try.ntmps14
  go_wp2_with fail
  go_loopw [3, 9] (fun p x wr => FnR F w p x wr) (fun _ x _ => F.length - (intOf x).toNat)
  case atStart => exact show FnR _ _ _ _ _ from ⟨0, Nat.zero_le _, rfl, own_empty (Nat.le_refl _), bnew w _, fun _ => rfl⟩
  case round =>
    obtain ⟨k, hk, rfl, hown, hbel, hnil⟩ := hrel
    by_cases hlt : k < F.length
    · obtain ⟨b, off, rfl, hbB, hcell⟩ := HC.out (by omega)
      obtain ⟨f, hf⟩ : ∃ f, F[k]? = some f := ⟨F[k], List.getElem?_eq_getElem hlt⟩
      obtain ⟨c0, c1, c2, c3, c4, c5, c6⟩ := rf_c7 (w := wr) (fun j u hu => (hbel.cell (p := ⟨b, off + k * 7 + j, none⟩) (by show b < w.heap.size; omega)).trans (hcell k f hf j u hu))
      have HK := hid' (keysF_snoc hf)
      have HO : okF f = fkB f.p f.la f.da f.sa f.lb f.db f.sb := rfl
      obtain ⟨p, la, da, sa, lb, db, sb⟩ := f
      simp only at c0 c1 c2 c3 c4 c5 c6 HO
      obtain ⟨bb, hbb⟩ : ∃ bb, fkB p la da sa lb db sb = bb := ⟨_, rfl⟩
      rw [hbb] at HO
      have HB := hid' hbb
      have HOO := hid' HO
      have hkl := keysF_len (F.take k)
      rw [List.length_take] at hkl
      clear hf hcell hbb HO
      go_wp2_with fail
      (with_reducible refine (iForkCheck_b p la da sa lb db sb bb _ HB.out).mono ?_)
      rintro _ w1 ⟨rfl, b1⟩
      have x1 := (Box.new wr _ _).next b1
      have b1' := bstep (bnew wr _) b1
      have hown1 := hown.next b1' (Nat.le_refl _)
      have hbel1 := bstep hbel b1'
      have hlen1 : ((keysF (F.take k)).map (Value.int .i64)).length ≤ 33554432 := by rw [List.length_map]; omega
      clear c0 c1 c2 c3 c4 c5 c6 hown hbel b1 b1'
      obtain ⟨c0, c1, c2, c3, c4, c5, c6⟩ := x1.c7
      cases bb
      · have HK2 : Hid (keysF (F.take (k + 1)) = keysF (F.take k)) := by unfold Hid; rw [HK.out, if_neg (by rw [HOO.out]; decide)]
        go_wp2_with fail
        go_roundw
        case rel => exact show FnR _ _ _ _ _ from ⟨k + 1, by omega, by go_num, by rw [HK2.out]; exact hown1, hbel1, fun e => hnil (by rw [← HK2.out]; exact e)⟩
        case measure => simp [intOf]; omega
      · have HK2 : Hid (keysF (F.take (k + 1)) = keysF (F.take k) ++ [p]) := by unfold Hid; rw [HK.out, if_pos HOO.out]
        go_wp2_with (at_builtin; refine wpList_push _ rfl _ _ 33 rfl w.heap.size 3 j0 (.int .i64 0) 8 Try.underlying33 ji jz0 jz1 jz2 rfl _ _ rfl hown1 _ rfl rfl hlen1 (by decide) hbel1.size ?_; intro v' w3 hown3 hbel3)
        go_roundw
        case rel => exact show FnR _ _ _ _ _ from ⟨k + 1, by omega, by go_num, by rw [HK2.out, List.map_append]; exact hown3, hbel1.trans hbel3, fun e => by rw [HK2.out] at e; simp at e⟩
        case measure => simp [intOf]; omega
    · have hkF : F.take k = F := List.take_of_length_le (by omega)
      rw [hkF] at hown hnil
      have hlt2 : (F.length : Int) ≤ (k : Int) := by omega
      have hkl := keysF_len F
      obtain ⟨g, cp, rfl⟩ : ∃ g cp, u3 = .slice (some ⟨g, 0, none⟩) (keysF F).length cp := by
        rcases Nat.eq_zero_or_pos (keysF F).length with h0 | h0
        · exact ⟨_, _, by rw [h0]; exact hnil (List.eq_nil_of_length_eq_zero h0)⟩
        · obtain ⟨g, cp, hv, _⟩ := own_form hown (by rw [List.length_map]; exact h0)
          rw [List.length_map] at hv
          exact ⟨g, cp, hv⟩
      clear hnil hkF hlt
      (go_wp2_with fail; (with_reducible refine (sort_any _ _ _ (keysF F) _ hown hbel.size (by omega)).mono ?_))
      rintro _ w2 ⟨rfl, o2, b2⟩
      have hl2 := hid' (sortI_len (keysF F))
      rw [← hl2.out]
      rw [← hl2.out] at o2
      have s2 := b2.size
      (go_wp2_with fail; (with_reducible refine (compact_any _ _ _ (sortI (keysF F)) _ o2 (by have := hbel.size; omega) (by have := hl2.out; omega)).mono ?_))
      rintro _ w3 ⟨rfl, o3, b3⟩
      go_wp2_with fail
      go_ret
      exact newrow_of o3 ((hbel.trans b2).trans b3)
set_option maxHeartbeats 1000000 in
theorem l1Has_b (v : Value) (L : List Int) (B : Nat) (n : Int) (w : World) (b : Bool) (h : RV w B v (L.map (Value.int .i64))) (hn : L.length ≤ 1048576) (hb : L.contains n = b) :
    Calls Try.prog 28 #[v, .int .i64 n] w fun e w' => e = .returned (.bool b) ∧ w = w' := by
  obtain ⟨A, cap, rfl, hl, hm, hc⟩ := h
  rw [List.length_map] at hl hc ⊢
  have HB := hid' hb
  have HC := hid' hc
  clear hb hc
  go_enter Try.func28, Try.ntmps28
  go_wp2
  go_loop [5] (fun i => ∃ k : Nat, k ≤ L.length ∧ i = .int .i64 k ∧ Hid ((L.take k).contains n = false)) (fun i => L.length - (intOf i).toNat)
  case atStart => exact ⟨0, Nat.zero_le _, rfl, rfl⟩
  case round =>
    obtain ⟨k, hk, rfl, hno⟩ := hrel
    by_cases hlt : k < L.length
    · obtain ⟨b1, off, rfl, hbB, hcell⟩ := HC.out (by omega)
      obtain ⟨x, hx⟩ : ∃ x, L[k]? = some x := ⟨L[k], List.getElem?_eq_getElem hlt⟩
      have hcx : w.cell? ⟨b1, off + k, none⟩ = some (.int .i64 x) := hcell k _ (by rw [List.getElem?_map, hx]; rfl)
      have HT : Hid (L.take (k + 1) = L.take k ++ [x]) := by
        rw [List.getElem?_eq_getElem hlt] at hx
        simp only [Option.some.injEq] at hx
        unfold Hid; rw [List.take_succ_eq_append_getElem hlt, hx]
      have HM := hid' (List.mem_of_getElem? hx)
      clear hx hcell
      by_cases hxn : x = n
      · have HT2 : Hid (b = true) := by unfold Hid; rw [← HB.out, ← hxn]; exact List.contains_iff_mem.2 HM.out
        have e1 : (x == n) = true := beq_iff_eq.2 hxn
        clear hxn
        go_wp2_with fail
        go_ret
        exact ⟨retB HT2.out.symm, rfl⟩
      · have e1 : (x == n) = false := beq_eq_false_iff_ne.2 hxn
        have HN : Hid ((L.take (k + 1)).contains n = false) := by
          have h0 := hno.out
          unfold Hid; rw [HT.out, Bool.eq_false_iff]
          intro hh
          rw [List.contains_iff_mem, List.mem_append, List.mem_singleton] at hh
          rcases hh with hh | hh
          · rw [List.contains_iff_mem.2 hh] at h0; cases h0
          · exact hxn hh.symm
        clear hxn
        go_wp2_with fail
        go_round
        case rel => exact ⟨k + 1, by omega, by go_num, HN⟩
        case measure => simp [intOf]; omega
    · have HF : Hid (b = false) := by
        have h0 := hno.out
        rw [List.take_of_length_le (by omega), HB.out] at h0; exact h0
      clear HC
      go_wp2_with fail
      go_ret
      exact ⟨retB HF.out.symm, rfl⟩
end Go.Proofs.Ytcocknfdafmfnaa
