/- What a law's arguments are as my words for memory: slices of integers and of bools. -/
import Derived.Test.YtcocknfdafmfnaaBase
import Derived.Test.YtcocknfdafmfnaaRows
import Derived.WalkKit
import Derived.ProofKit
import Derived.Lib.SmallJoins
import Derived.ChangeArms
import Derived.KernelRfl
namespace Go.Proofs.Ytcocknfdafmfnaa
set_option linter.unusedVariables false
open Go.ChangeShapes Go.WideShapes Go.RowKit

theorem RV.of_cells {w : World} {x : Addr} {len cap : Nat} (hl : len ≤ cap) (hm : cap ≤ maxLen) (Z : Nat → Value) (hcell : ∀ i, i < cap → w.cell? (x.add i) = some (Z i)) :
    RV w w.heap.size (.slice (some x) len cap) ((List.range len).map Z) := by
  refine ⟨some x, cap, by simp, by simpa using hl, hm, fun h0 => ?_⟩
  have h0' : 0 < len := by simpa using h0
  have hc := hcell 0 (by omega)
  obtain ⟨b, off, spot⟩ := x
  have hspot : spot = none := by simpa [Addr.add] using World.cell?_spot hc
  subst hspot
  refine ⟨b, off, rfl, ?_, fun i u hu => ?_⟩
  · have := World.block_lt_of_cell? w _ hc
    simpa [Addr.add] using this
  · rw [List.getElem?_map] at hu
    have hi : i < len := by
      rcases Nat.lt_or_ge i len with h | h
      · exact h
      · rw [List.getElem?_eq_none (by simpa using h)] at hu; cases hu
    rw [List.getElem?_range hi] at hu
    simp only [Option.map_some, Option.some.injEq] at hu
    subst hu
    have := hcell i (by omega)
    by_cases h1 : i = 0
    · subst h1; simpa [Addr.add] using this
    · simpa [Addr.add, h1] using this

theorem RV.of_ints {w : World} {k : IntKind} {x : Addr} {len cap : Nat} {zs : List Int} (hl : len ≤ cap) (hm : cap ≤ maxLen) (hz : zs.length = cap) (hcell : ∀ i, i < zs.length → w.cell? (x.add i) = some (.int k (zs.getD i 0))) :
    RV w w.heap.size (.slice (some x) len cap) ((zs.take len).map (Value.int k)) := by
  have h := RV.of_cells (w := w) (x := x) hl hm (fun i => .int k (zs.getD i 0)) (fun i hi => hcell i (by omega))
  have e : (List.range len).map (fun i => Value.int k (zs.getD i 0)) = (zs.take len).map (Value.int k) := by
    apply List.ext_getElem?
    intro i
    rw [List.getElem?_map, List.getElem?_map, List.getElem?_take]
    by_cases hi : i < len
    · rw [List.getElem?_range hi, if_pos hi, List.getElem?_eq_getElem (show i < zs.length by omega)]
      simp [List.getD, List.getElem?_eq_getElem (show i < zs.length by omega)]
    · rw [List.getElem?_eq_none (by simpa using hi), if_neg hi]; rfl
  rw [← e]; exact h

theorem RV.of_bools {w : World} {x : Addr} {len cap : Nat} {Z : Nat → Bool} (hl : len ≤ cap) (hm : cap ≤ maxLen) (hcell : ∀ i, i < cap → w.cell? (x.add i) = some (.bool (Z i))) :
    RV w w.heap.size (.slice (some x) len cap) (((List.range len).map Z).map Value.bool) := by
  have h := RV.of_cells (w := w) (x := x) hl hm (fun i => .bool (Z i)) hcell
  rw [List.map_map]; exact h

section
variable {H : Type} {enc : TypeId × Value → H} {w : World} {base : Nat} {spare : Nat → Bool} {held : Bool}
theorem one_int {n : Nat} {c : Value} {xs : List (DataW H × List MemPlace)} {i : Nat} (hi : i < xs.length) (h : DataW.trod enc Try.prog w base spare held n 3 [c] = xs[i]?) : ∃ a : Int, c = .int .i64 a ∧ (Lit.int .i64 a).wf = true := by
  rw [List.getElem?_eq_getElem hi] at h
  obtain ⟨a, hx, _, hw⟩ := DataW.trod_int Try.underlying3 h
  exact ⟨a, by simpa using hx, hw⟩
theorem three_ints {n : Nat} {c0 c1 c2 : Value} {xs : List (DataW H × List MemPlace)} {i : Nat} (hi : i < xs.length) (h : DataW.trod enc Try.prog w base spare held n 50 [c0, c1, c2] = xs[i]?) :
    ∃ a b c : Int, c0 = .int .i64 a ∧ c1 = .int .i64 b ∧ c2 = .int .i64 c ∧ (Lit.int .i64 a).wf = true ∧ (Lit.int .i64 b).wf = true ∧ (Lit.int .i64 c).wf = true := by
  rw [List.getElem?_eq_getElem hi] at h
  obtain ⟨ys, m, _, _, _, hlen, hg⟩ := DataW.trod_struct Try.underlying50 h
  have hl : ys.length = 3 := hlen
  have g0 : DataW.trod enc Try.prog w base spare held m 3 (List.take (Try.prog.cellsOf 3) (List.drop 0 [c0, c1, c2])) = ys[0]? := hg 0 _ rfl
  have g1 : DataW.trod enc Try.prog w base spare held m 3 (List.take (Try.prog.cellsOf 3) (List.drop 1 [c0, c1, c2])) = ys[1]? := hg 1 _ rfl
  have g2 : DataW.trod enc Try.prog w base spare held m 3 (List.take (Try.prog.cellsOf 3) (List.drop 2 [c0, c1, c2])) = ys[2]? := hg 2 _ rfl
  rw [show Try.prog.cellsOf 3 = 1 by kernel_rfl] at g0 g1 g2
  obtain ⟨a, ha, wa⟩ := one_int (by omega) g0
  obtain ⟨b, hb, wb⟩ := one_int (by omega) g1
  obtain ⟨c, hc, wc⟩ := one_int (by omega) g2
  exact ⟨a, b, c, ha, hb, hc, wa, wb, wc⟩
theorem seven_ints {n : Nat} {cs : List Value} {x : DataW H × List MemPlace} (h : DataW.trod enc Try.prog w base spare held n 52 cs = some x) :
    ∃ p la da sa lb db sb : Int, cs = [.int .i64 p, .int .i64 la, .int .i64 da, .int .i64 sa, .int .i64 lb, .int .i64 db, .int .i64 sb] ∧
      (Lit.int .i64 p).wf = true ∧ (Lit.int .i64 la).wf = true ∧ (Lit.int .i64 da).wf = true ∧ (Lit.int .i64 sa).wf = true ∧ (Lit.int .i64 lb).wf = true ∧ (Lit.int .i64 db).wf = true ∧ (Lit.int .i64 sb).wf = true := by
  obtain ⟨ys, m, _, _, hcl, hlen, hg⟩ := DataW.trod_struct Try.underlying52 h
  rw [show Try.prog.cellsOf 52 = 7 by kernel_rfl] at hcl
  have hl : ys.length = 3 := hlen
  match cs, hcl with
  | [c0, c1, c2, c3, c4, c5, c6], _ =>
    have g0 : DataW.trod enc Try.prog w base spare held m 3 (List.take (Try.prog.cellsOf 3) (List.drop 0 [c0, c1, c2, c3, c4, c5, c6])) = ys[0]? := hg 0 _ rfl
    have g1 : DataW.trod enc Try.prog w base spare held m 50 (List.take (Try.prog.cellsOf 50) (List.drop 1 [c0, c1, c2, c3, c4, c5, c6])) = ys[1]? := hg 1 _ rfl
    have g2 : DataW.trod enc Try.prog w base spare held m 50 (List.take (Try.prog.cellsOf 50) (List.drop 4 [c0, c1, c2, c3, c4, c5, c6])) = ys[2]? := hg 2 _ rfl
    rw [show Try.prog.cellsOf 3 = 1 by kernel_rfl] at g0
    rw [show Try.prog.cellsOf 50 = 3 by kernel_rfl] at g1 g2
    obtain ⟨p, rfl, wp⟩ := one_int (by omega) g0
    obtain ⟨la, da, sa, rfl, rfl, rfl, w1, w2, w3⟩ := three_ints (by omega) g1
    obtain ⟨lb, db, sb, rfl, rfl, rfl, w4, w5, w6⟩ := three_ints (by omega) g2
    exact ⟨p, la, da, sa, lb, db, sb, rfl, wp, w1, w2, w3, w4, w5, w6⟩
theorem open_fork {r : Reach} {b0 : Nat} {v : Value} {d : DataW H} {q : List MemPlace} (hv : Value.okWide Try.prog w r b0 52 v) (h : DataW.Trod enc Try.prog w base spare held 52 v d q) :
    ∃ p la da sa lb db sb : Int, v = .agg #[.int .i64 p, .int .i64 la, .int .i64 da, .int .i64 sa, .int .i64 lb, .int .i64 db, .int .i64 sb] ∧
      (Lit.int .i64 p).wf = true ∧ (Lit.int .i64 la).wf = true ∧ (Lit.int .i64 da).wf = true ∧ (Lit.int .i64 sa).wf = true ∧ (Lit.int .i64 lb).wf = true ∧ (Lit.int .i64 db).wf = true ∧ (Lit.int .i64 sb).wf = true := by
  obtain ⟨cs, rfl, _⟩ := okWide_struct Try.underlying52 hv
  obtain ⟨fuel, hf⟩ := h
  obtain ⟨p, la, da, sa, lb, db, sb, hcs, ws⟩ := seven_ints hf
  refine ⟨p, la, da, sa, lb, db, sb, ?_, ws⟩
  have : cs = #[.int .i64 p, .int .i64 la, .int .i64 da, .int .i64 sa, .int .i64 lb, .int .i64 db, .int .i64 sb] := by
    apply Array.ext'
    simpa [Value.cells] using hcs
  rw [this]
end
end Go.Proofs.Ytcocknfdafmfnaa
