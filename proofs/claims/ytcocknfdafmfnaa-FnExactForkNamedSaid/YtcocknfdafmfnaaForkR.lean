/- The walks of the laws' own helpers on lists of proofs of forks: copies, comparisons, marks. -/
import Derived.Test.YtcocknfdafmfnaaForkS
import Derived.Test.YtcocknfdafmfnaaHM
import Derived.StillTailTactics
namespace Go.Proofs.Ytcocknfdafmfnaa
set_option linter.unusedVariables false
open Go.RowKit

/-- block g has n elements of seven cells, and the first k are those of F -/
def BoxF (w : World) (g n : Nat) (F : List FK) (k : Nat) : Prop :=
  ∃ cur : Array Value, Box w g 26 cur ∧ cur.size = n * 7 ∧ ∀ i f, i < k → F[i]? = some f → ∀ j u, f.cells[j]? = some u → cur[i * 7 + j]? = some u
theorem cells_lt {f : FK} {j : Nat} {u : Value} (h : f.cells[j]? = some u) : j < 7 := by
  rcases Nat.lt_or_ge j 7 with h1 | h1
  · exact h1
  · rw [List.getElem?_eq_none (by unfold FK.cells; simpa using h1)] at h; cases h
def set7 (w : World) (g p : Nat) (f : FK) : World :=
  ((((((w.setCell ⟨g, p, none⟩ (.int .i64 f.p)).setCell ⟨g, p + 1, none⟩ (.int .i64 f.la)).setCell ⟨g, p + 2, none⟩ (.int .i64 f.da)).setCell ⟨g, p + 3, none⟩ (.int .i64 f.sa)).setCell ⟨g, p + 4, none⟩ (.int .i64 f.lb)).setCell ⟨g, p + 5, none⟩ (.int .i64 f.db)).setCell ⟨g, p + 6, none⟩ (.int .i64 f.sb)
theorem BoxF.set {w : World} {g n k : Nat} {F : List FK} {f : FK} (h : BoxF w g n F k) (hf : F[k]? = some f) (hk : k < n) : BoxF (set7 w g (k * 7) f) g n F (k + 1) := by
  obtain ⟨cur, hb, hs, hc⟩ := h
  refine ⟨_, ((((((hb.set (k * 7) (.int .i64 f.p)).set (k * 7 + 1) (.int .i64 f.la)).set (k * 7 + 2) (.int .i64 f.da)).set (k * 7 + 3) (.int .i64 f.sa)).set (k * 7 + 4) (.int .i64 f.lb)).set (k * 7 + 5) (.int .i64 f.db)).set (k * 7 + 6) (.int .i64 f.sb), by simpa using hs, fun i f' hi hf' j u hu => ?_⟩
  have hj := cells_lt hu
  by_cases hik : i = k
  · subst hik
    rw [hf] at hf'
    simp only [Option.some.injEq] at hf'
    subst hf'
    rcases (show j = 0 ∨ j = 1 ∨ j = 2 ∨ j = 3 ∨ j = 4 ∨ j = 5 ∨ j = 6 by omega) with rfl | rfl | rfl | rfl | rfl | rfl | rfl
    all_goals
      simp only [FK.cells, List.getElem?_cons_zero, List.getElem?_cons_succ, Option.some.injEq] at hu
      subst hu
      simp only [Array.getElem?_setIfInBounds, Array.size_setIfInBounds, hs, if_true]
      repeat (first | (rw [if_pos (by omega)]) | (rw [if_neg (by omega)]))
  · have := hc i f' (by omega) hf' j u hu
    rw [← this]
    simp only [Array.getElem?_setIfInBounds]
    repeat (rw [if_neg (by omega)])
/-- a row of forks that the call has made, in a block from lo up to hi -/
def RowF (w : World) (lo hi : Nat) (v : Value) (F : List FK) : Prop := ∃ g, v = .slice (some ⟨g, 0, none⟩) F.length F.length ∧ lo ≤ g ∧ g < hi ∧ F.length ≤ maxLen ∧ BoxF w g F.length F F.length
def NewRowF (w0 : World) (F : List FK) (en : Ending) (w' : World) : Prop := ∃ v', en = .returned v' ∧ RowF w' w0.heap.size w'.heap.size v' F ∧ Below w0.heap.size w0 w'
theorem RowF.rf {w : World} {lo hi : Nat} {v : Value} {F : List FK} (h : RowF w lo hi v F) : RF w hi v F := by
  obtain ⟨g, rfl, hl, hh, hm, cur, hb, hs, hc⟩ := h
  refine ⟨_, _, rfl, Nat.le_refl _, hm, fun h0 => ⟨g, 0, rfl, hh, fun i f hi j u hu => ?_⟩⟩
  have hlt : i < F.length := by
    rcases Nat.lt_or_ge i F.length with h1 | h1
    · exact h1
    · rw [List.getElem?_eq_none h1] at hi; cases hi
  rw [Nat.zero_add, hb.cell]
  exact hc i f hlt hi j u hu
theorem RowF.next {w w' : World} {lo hi B : Nat} {v : Value} {F : List FK} (h : RowF w lo hi v F) (hb : Below B w w') (hB : hi ≤ B) : RowF w' lo hi v F := by
  obtain ⟨g, rfl, hl, hh, hm, cur, hbx, hs, hc⟩ := h
  exact ⟨g, rfl, hl, hh, hm, cur, hbx.below hb (by omega), hs, hc⟩
theorem RowF.grown {w w' : World} {lo hi : Nat} {v : Value} {F : List FK} (h : RowF w lo hi v F) {row : Option Nat} (hg : w.grownBy w' row) (hr : ∀ k, row = some k → k < lo ∨ hi ≤ k) : RowF w' lo hi v F := by
  obtain ⟨g, rfl, hl, hh, hm, cur, hbx, hs, hc⟩ := h
  refine ⟨g, rfl, hl, hh, hm, cur, (hg.block g hbx.lt fun e => ?_).trans hbx, hs, hc⟩
  have := hr g e.symm
  omega
theorem RowF.blk {w : World} {lo hi : Nat} {v : Value} {F : List FK} (h : RowF w lo hi v F) {k : Nat} (hk : v.ownBlock = some k) : lo ≤ k ∧ k < hi := by
  obtain ⟨g, rfl, hl, hh, _⟩ := h
  simp only [Value.ownBlock, Option.some.injEq] at hk
  omega
theorem below_rowF {w w' : World} {lo hi : Nat} {v : Value} {F : List FK} (hr : RowF w lo hi v F) (hg : w.grownBy w' v.ownBlock) (hl : lo ≤ w.heap.size) : Below lo w w' :=
  ⟨hg.os, hg.tape, hg.output, hg.size, fun k hk => hg.block k (by omega) fun e => by have := (hr.blk e.symm).1; omega⟩
theorem szForkS_any (v : Value) (F : List FK) (B : Nat) (w : World) (h : RF w B v F) :
    Calls Try.prog 11 #[v, .int .i64 1048576] w fun e w' => e = .returned (.int .i64 (if 1048576 < F.length then -1 else 1048576 - (F.length : Int))) ∧ w = w' := by
  obtain ⟨A, cap, rfl, hl, hm, hc⟩ := h
  unfold maxLen at hm
  clear hc
  by_cases hb : 1048576 < F.length
  · rw [if_pos hb]
    go_enter Try.func11, Try.ntmps11
    go_wp2_with fail
    go_ret
    exact ⟨rfl, rfl⟩
  · rw [if_neg hb]
    go_enter Try.func11, Try.ntmps11
    go_wp2_with fail
    go_ret
    exact ⟨rfl, rfl⟩
set_option maxHeartbeats 2000000 in
theorem toFork_anyR (p la da sa lb db sb : Int) (w : World) :
    Calls Try.prog 29 #[.agg #[.int .i64 p, .int .i64 la, .int .i64 da, .int .i64 sa, .int .i64 lb, .int .i64 db, .int .i64 sb]] w fun e w' =>
      e = .returned (.agg #[.int .i64 p, .int .i64 la, .int .i64 da, .int .i64 sa, .int .i64 lb, .int .i64 db, .int .i64 sb]) ∧ Below w.heap.size w w' := by
  go_enter Try.func29, Try.ntmps29
  go_wp2
  go_outline
  refine bodyPost_ret (v := .agg #[.int .i64 p, .int .i64 la, .int .i64 da, .int .i64 sa, .int .i64 lb, .int .i64 db, .int .i64 sb]) (by simp [results, Try.results29, go_sem]) rfl ⟨rfl, ?_⟩
  go_grown
theorem info_ForkS : (Try.prog.info? 26).map (fun i => (i.zero, i.size, i.bytes)) = some (some (.agg #[.int .i64 0, .int .i64 0, .int .i64 0, .int .i64 0, .int .i64 0, .int .i64 0, .int .i64 0]), 7, 56) := by kernel_rfl
set_option maxHeartbeats 4000000 in
set_option maxRecDepth 100000 in
theorem toForkS_any (v : Value) (F : List FK) (B : Nat) (w : World) (h : RF w B v F) (hB : B ≤ w.heap.size) (hn : F.length ≤ 1048576) :
    Calls Try.prog 13 #[v] w (NewRowF w F) := by
  obtain ⟨A, cap, rfl, hl, hm, hc⟩ := h
  obtain ⟨i0, hi, hz0, hz1, hz2⟩ := info_parts info_ForkS
  have HC := hid' hc
  clear hc
  go_enter Try.func13, Try.ntmps13
  go_wp2_with (at_make; refine wpList_make_full _ rfl _ _ 35 rfl w.heap.size 26 i0 (.agg #[.int .i64 0, .int .i64 0, .int .i64 0, .int .i64 0, .int .i64 0, .int .i64 0, .int .i64 0]) 7 Try.underlying35 hi hz0 hz1 _ _ _ _ F.length rfl rfl rfl rfl ?b2 ?b3 (Nat.le_refl _) ?_)
  case b2 => rw [hz2]; omega
  case b3 => unfold maxLen; omega
  intro w0 hown0 hgrow0
  have hbel0 : Below w.heap.size w w0 := (Below.refl _ _).grown hgrow0 (Nat.le_refl _) (fun k h => by cases h)
  have HBX : BoxF w0 w.heap.size F.length F 0 := by
    rcases hown0.2 with ⟨h0, _⟩ | ⟨g', cap', cur, hv, hb, hg, h1, h2, h3, h4⟩
    · cases h0
    · simp only [Value.slice.injEq, Option.some.injEq, Addr.mk.injEq] at hv
      obtain ⟨⟨rfl, _, _⟩, _, rfl⟩ := hv
      exact ⟨cur, hg, h3, fun i f hi => by omega⟩
  clear hown0 hgrow0
  go_wp2_with fail
  go_loopw [4] (fun i wr => ∃ k : Nat, k ≤ F.length ∧ i = .int .i64 k ∧ BoxF wr w.heap.size F.length F k ∧ Below w.heap.size w wr) (fun i _ => F.length - (intOf i).toNat)
  case atStart => exact ⟨0, Nat.zero_le _, rfl, HBX, hbel0⟩
  case round =>
    clear HBX hbel0
    obtain ⟨k, hk, rfl, hbx, hbel⟩ := hrel
    by_cases hlt : k < F.length
    · obtain ⟨b, off, rfl, hbB, hcell⟩ := HC.out (by omega)
      obtain ⟨f, hf⟩ : ∃ f, F[k]? = some f := ⟨F[k], List.getElem?_eq_getElem hlt⟩
      obtain ⟨c0, c1, c2, c3, c4, c5, c6⟩ := rf_c7 (w := wr) (fun q u hu => (hbel.cell (p := ⟨b, off + k * 7 + q, none⟩) (by show b < w.heap.size; omega)).trans (hcell k f hf q u hu))
      have HFF := hid' hf
      obtain ⟨p, la, da, sa, lb, db, sb⟩ := f
      simp only at c0 c1 c2 c3 c4 c5 c6
      clear hf hcell
      go_wp2_with fail
      (with_reducible refine (toFork_anyR p la da sa lb db sb _).mono ?_)
      rintro _ w1 ⟨rfl, b1⟩
      have hbx1 : BoxF w1 w.heap.size F.length F k := by
        obtain ⟨cur, hb, hs, hc⟩ := hbx
        exact ⟨cur, hb.next b1, hs, hc⟩
      have hbel1 := bstep hbel b1
      have HB2 := hid' (hbx1.set HFF.out hlt)
      have HBel2 : Hid (Below w.heap.size w (set7 w1 w.heap.size (k * 7) ⟨p, la, da, sa, lb, db, sb⟩)) := by
        unfold Hid set7
        exact ((((((hbel1.setCell (p := ⟨w.heap.size, _, none⟩) (Nat.le_refl _) _).setCell (p := ⟨w.heap.size, _, none⟩) (Nat.le_refl _) _).setCell (p := ⟨w.heap.size, _, none⟩) (Nat.le_refl _) _).setCell (p := ⟨w.heap.size, _, none⟩) (Nat.le_refl _) _).setCell (p := ⟨w.heap.size, _, none⟩) (Nat.le_refl _) _).setCell (p := ⟨w.heap.size, _, none⟩) (Nat.le_refl _) _).setCell (p := ⟨w.heap.size, _, none⟩) (Nat.le_refl _) _
      obtain ⟨cur, hb, hs, hcc⟩ := hbx1
      have gt : ∀ j, j < 7 → ∃ u, w1.cell? ⟨w.heap.size, k * 7 + j, none⟩ = some u := fun j hj => ⟨cur[k * 7 + j]'(by omega), by rw [hb.cell]; exact Array.getElem?_eq_getElem (by omega)⟩
      obtain ⟨y0, d0⟩ := gt 0 (by omega)
      obtain ⟨y1, d1⟩ := gt 1 (by omega)
      obtain ⟨y2, d2⟩ := gt 2 (by omega)
      obtain ⟨y3, d3⟩ := gt 3 (by omega)
      obtain ⟨y4, d4⟩ := gt 4 (by omega)
      obtain ⟨y5, d5⟩ := gt 5 (by omega)
      obtain ⟨y6, d6⟩ := gt 6 (by omega)
      rw [Nat.add_zero] at d0
      have f0 := hb.frozen (k * 7)
      have f1 := hb.frozen (k * 7 + 1)
      have f2 := hb.frozen (k * 7 + 2)
      have f3 := hb.frozen (k * 7 + 3)
      have f4 := hb.frozen (k * 7 + 4)
      have f5 := hb.frozen (k * 7 + 5)
      have f6 := hb.frozen (k * 7 + 6)
      clear gt hb hs hcc cur hbx hbel hbel1 b1 c0 c1 c2 c3 c4 c5 c6
      go_wp2_with fail
      go_roundw
      case rel => exact ⟨k + 1, by omega, by go_num, HB2.out, HBel2.out⟩
      case measure => simp [intOf]; omega
    · have hkl : k = F.length := by omega
      subst hkl
      clear HC
      go_wp2_with fail
      go_ret
      exact ⟨_, rfl, ⟨w.heap.size, rfl, Nat.le_refl _, by obtain ⟨cur, hb, _⟩ := hbx; exact hb.lt, by unfold maxLen; omega, hbx⟩, hbel⟩
theorem eqHead_any (a b c : Int) (w : World) : Calls Try.prog 47 #[.agg #[.int .i64 a, .int .i64 b, .int .i64 c], .agg #[.int .i64 a, .int .i64 b, .int .i64 c]] w fun e w' => e = .returned (.bool true) ∧ Below w.heap.size w w' := by
  have e1 : (a != a) = false := by simp
  have e2 : (b != b) = false := by simp
  have e3 : (c != c) = false := by simp
  go_enter Try.func47, Try.ntmps47
  go_wp2_with fail
  go_ret
  exact ⟨rfl, balloc (bnew w _) _⟩
set_option maxHeartbeats 4000000 in
theorem eqFork_any (p la da sa lb db sb : Int) (w : World) :
    Calls Try.prog 32 #[.agg #[.int .i64 p, .int .i64 la, .int .i64 da, .int .i64 sa, .int .i64 lb, .int .i64 db, .int .i64 sb], .agg #[.int .i64 p, .int .i64 la, .int .i64 da, .int .i64 sa, .int .i64 lb, .int .i64 db, .int .i64 sb]] w fun e w' => e = .returned (.bool true) ∧ Below w.heap.size w w' := by
  have e1 : (p != p) = false := by simp
  have xa := (Box.new w 26 #[.int .i64 p, .int .i64 la, .int .i64 da, .int .i64 sa, .int .i64 lb, .int .i64 db, .int .i64 sb]).alloc (.cells #[.int .i64 p, .int .i64 la, .int .i64 da, .int .i64 sa, .int .i64 lb, .int .i64 db, .int .i64 sb] 26)
  have xb := Box.new (w.alloc (.cells #[.int .i64 p, .int .i64 la, .int .i64 da, .int .i64 sa, .int .i64 lb, .int .i64 db, .int .i64 sb] 26)) 26 #[.int .i64 p, .int .i64 la, .int .i64 da, .int .i64 sa, .int .i64 lb, .int .i64 db, .int .i64 sb]
  have bb := balloc (bnew w (.cells #[.int .i64 p, .int .i64 la, .int .i64 da, .int .i64 sa, .int .i64 lb, .int .i64 db, .int .i64 sb] 26)) (.cells #[.int .i64 p, .int .i64 la, .int .i64 da, .int .i64 sa, .int .i64 lb, .int .i64 db, .int .i64 sb] 26)
  go_enter Try.func32, Try.ntmps32
  (go_wp2_with fail; (with_reducible refine (eqHead_any la da sa _).mono ?_))
  rintro _ w1 ⟨rfl, b1⟩
  have xa1 := xa.next b1
  have xb1 := xb.next b1
  obtain ⟨c0, c1, c2, c3, c4, c5, c6⟩ := xa1.c7
  obtain ⟨d0, d1, d2, d3, d4, d5, d6⟩ := xb1.c7
  have bb1 := bstep bb b1
  have sz : (w.alloc (.cells #[.int .i64 p, .int .i64 la, .int .i64 da, .int .i64 sa, .int .i64 lb, .int .i64 db, .int .i64 sb] 26)).heap.size = w.heap.size + 1 := by simp
  rw [sz] at d0 d1 d2 d3 d4 d5 d6
  clear sz xa xb xa1 xb1 bb b1
  (go_wp2_with fail; (with_reducible refine (eqHead_any lb db sb _).mono ?_))
  rintro _ w2 ⟨rfl, b2⟩
  go_wp2_with fail
  go_ret
  exact ⟨rfl, bstep bb1 b2⟩
set_option maxHeartbeats 4000000 in
set_option maxRecDepth 100000 in
theorem eqForkS_any (v v' : Value) (F : List FK) (B : Nat) (w : World) (h : RF w B v F) (h' : RF w B v' F) (hB : B ≤ w.heap.size) (hn : F.length ≤ 1048576) :
    Calls Try.prog 16 #[v, v'] w fun e w' => e = .returned (.bool true) ∧ Below w.heap.size w w' := by
  obtain ⟨A, cap, rfl, hl, hm, hc⟩ := h
  obtain ⟨A', cap', rfl, hl', hm', hc'⟩ := h'
  have HC := hid' hc
  have HC' := hid' hc'
  have e0 : ((F.length : Int) != (F.length : Int)) = false := by simp
  clear hc hc'
  go_enter Try.func16, Try.ntmps16
  go_wp2_with fail
  go_loopw [5] (fun i wr => ∃ k : Nat, k ≤ F.length ∧ i = .int .i64 k ∧ Below w.heap.size w wr) (fun i _ => F.length - (intOf i).toNat)
  case atStart => exact ⟨0, Nat.zero_le _, rfl, Below.refl _ _⟩
  case round =>
    obtain ⟨k, hk, rfl, hbel⟩ := hrel
    by_cases hlt : k < F.length
    · obtain ⟨b, off, rfl, hbB, hcell⟩ := HC.out (by omega)
      obtain ⟨b', off', rfl, hbB', hcell'⟩ := HC'.out (by omega)
      obtain ⟨f, hf⟩ : ∃ f, F[k]? = some f := ⟨F[k], List.getElem?_eq_getElem hlt⟩
      obtain ⟨c0, c1, c2, c3, c4, c5, c6⟩ := rf_c7 (w := wr) (fun q u hu => (hbel.cell (p := ⟨b, off + k * 7 + q, none⟩) (by show b < w.heap.size; omega)).trans (hcell k f hf q u hu))
      obtain ⟨d0, d1, d2, d3, d4, d5, d6⟩ := rf_c7 (w := wr) (fun q u hu => (hbel.cell (p := ⟨b', off' + k * 7 + q, none⟩) (by show b' < w.heap.size; omega)).trans (hcell' k f hf q u hu))
      obtain ⟨p, la, da, sa, lb, db, sb⟩ := f
      simp only at c0 c1 c2 c3 c4 c5 c6 d0 d1 d2 d3 d4 d5 d6
      clear hf hcell hcell'
      go_wp2_with fail
      have cx0 : wr.drew.cell? ⟨b, off + k * 7, none⟩ = some (.int .i64 p) := c0
      have cy0 := cx0
      have cx1 : wr.drew.cell? ⟨b, off + k * 7 + 1, none⟩ = some (.int .i64 la) := c1
      have cy1 := cx1
      have cx2 : wr.drew.cell? ⟨b, off + k * 7 + 2, none⟩ = some (.int .i64 da) := c2
      have cy2 := cx2
      have cx3 : wr.drew.cell? ⟨b, off + k * 7 + 3, none⟩ = some (.int .i64 sa) := c3
      have cy3 := cx3
      have cx4 : wr.drew.cell? ⟨b, off + k * 7 + 4, none⟩ = some (.int .i64 lb) := c4
      have cy4 := cx4
      have cx5 : wr.drew.cell? ⟨b, off + k * 7 + 5, none⟩ = some (.int .i64 db) := c5
      have cy5 := cx5
      have cx6 : wr.drew.cell? ⟨b, off + k * 7 + 6, none⟩ = some (.int .i64 sb) := c6
      have cy6 := cx6
      have dx0 : wr.drew.cell? ⟨b', off' + k * 7, none⟩ = some (.int .i64 p) := d0
      have dy0 := dx0
      have dx1 : wr.drew.cell? ⟨b', off' + k * 7 + 1, none⟩ = some (.int .i64 la) := d1
      have dy1 := dx1
      have dx2 : wr.drew.cell? ⟨b', off' + k * 7 + 2, none⟩ = some (.int .i64 da) := d2
      have dy2 := dx2
      have dx3 : wr.drew.cell? ⟨b', off' + k * 7 + 3, none⟩ = some (.int .i64 sa) := d3
      have dy3 := dx3
      have dx4 : wr.drew.cell? ⟨b', off' + k * 7 + 4, none⟩ = some (.int .i64 lb) := d4
      have dy4 := dx4
      have dx5 : wr.drew.cell? ⟨b', off' + k * 7 + 5, none⟩ = some (.int .i64 db) := d5
      have dy5 := dx5
      have dx6 : wr.drew.cell? ⟨b', off' + k * 7 + 6, none⟩ = some (.int .i64 sb) := d6
      have dy6 := dx6
      simp only [World.drew] at cy0 cy1 cy2 cy3 cy4 cy5 cy6 dy0 dy1 dy2 dy3 dy4 dy5 dy6
      go_still_tail 8, (by kernel_rfl)
      change wpList _ _ _ _ _ wr.drew
      go_wp2_with fail
      (with_reducible refine (eqFork_any p la da sa lb db sb _).mono ?_)
      rintro _ w1 ⟨rfl, b1⟩
      have b1' : Below wr.heap.size wr w1 := ((Below.refl wr.heap.size wr).drew).trans b1
      go_wp2_with fail
      go_roundw
      case rel => exact ⟨k + 1, by omega, by go_num, bstep hbel b1'⟩
      case measure => simp [intOf]; omega
    · have hlt2 : (F.length : Int) ≤ (k : Int) := by omega
      clear HC HC' hlt
      go_wp2_with fail
      go_ret
      exact ⟨rfl, hbel⟩
end Go.Proofs.Ytcocknfdafmfnaa
