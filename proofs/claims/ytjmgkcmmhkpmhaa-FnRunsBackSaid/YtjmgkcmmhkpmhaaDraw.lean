/- What the drawing functions hand back: its range alone. -/
import Derived.Test.YtjmgkcmmhkpmhaaPick
import Derived.Laws.BytesString
import Derived.Laws.Concat
import Derived.LoopTactic
namespace Go.Proofs.Ytjmgkcmmhkpmhaa
set_option linter.unusedVariables false
open Go.RowKit

theorem grown_trans {a b c : World} {row : Option Nat} (h : a.grownBy b row) (k : b.grownBy c row) : a.grownBy c row :=
  ⟨k.os.trans h.os, k.tape.trans h.tape, k.output.trans h.output, Nat.le_trans h.size k.size, fun i hi hne => (k.block i (Nat.lt_of_lt_of_le hi h.size) hne).trans (h.block i hi hne)⟩
theorem grown_alloc {a w : World} {row : Option Nat} (h : a.grownBy w row) (o : Obj) : a.grownBy (w.alloc o) row := grown_trans h (World.grownBy_alloc w o row)
theorem below_of_grown {a w : World} {g B : Nat} (h : a.grownBy w (some g)) (hB : B ≤ a.heap.size) (hg : B ≤ g) : Below B a w :=
  ⟨h.os, h.tape, h.output, h.size, fun k hk => h.block k (by omega) (by simp; omega)⟩
theorem grown_of_below {a w : World} {row : Option Nat} (h : Below a.heap.size a w) : a.grownBy w row := ⟨h.os, h.tape, h.output, h.size, fun k hk _ => h.block k hk⟩
theorem Rdr.alloc {w : World} {g p : Nat} (h : Rdr w g p) (o : Obj) : Rdr (w.alloc o) g p := h.below ((Below.refl w.heap.size w).alloc (Nat.le_refl _) o) h.lt
theorem own_grown {w w' : World} {base g : Nat} {e : TypeId} {v : Value} {L : List Value} (h : OW w base e v L) (hk : w.grownBy w' (some g)) (hb : g < base) : OW w' base e v L := by
  refine World.ownsRow.kept h hk ?_
  cases hv : v.ownBlock with
  | none => exact .inl rfl
  | some k => exact .inr (by have := World.ownsRow.lt h k hv; simp; omega)

theorem hidE {p : Prop} (h : p) : Hid p := h
/-- What a drawing function leaves: at most k places on; the reader's block alone turned; Q of the value and of the world. -/
def DrawPost (g p k : Nat) (Q : Value → World → Prop) (w : World) (e : Ending) (w' : World) : Prop :=
  ∃ (v : Value) (p' : Nat), e = .returned v ∧ p' ≤ p + k ∧ Rdr w' g p' ∧ w.grownBy w' (some g) ∧ Q v w'

theorem l6Open_any (v : Value) (L : List Int) (B : Nat) (w : World) (h : RV w B v (L.map (Value.int .u8))) (hb : ∀ n ∈ L, (Lit.int .u8 n).wf = true) (hB : B ≤ w.heap.size) :
    Calls Try.prog 47 #[v] w fun e w' => e = .returned (.pointer (some ⟨w.heap.size, 0, none⟩)) ∧ Rdr w' w.heap.size 0 ∧ Below w.heap.size w w' ∧ w.heap.size < w'.heap.size := by
  obtain ⟨A, cap, rfl, hl, hm, hc⟩ := h
  have HC : Hid (∀ n, n ≤ 2000 → n ≤ L.length → Rdr (w.alloc (.cells #[.slice A n cap, .int .i64 0] 66)) w.heap.size 0) := by
    intro n hn hnl
    refine ⟨A, n, cap, heap_alloc_new w _, hn, fun h0 => ?_⟩
    obtain ⟨b, off, hA, hbB, hcell⟩ := hc (by simp; omega)
    refine ⟨b, off, hA, by omega, fun i hi => ?_⟩
    have hi' : i < L.length := by omega
    refine ⟨L[i], ?_, ?_, ?_⟩
    · exact (bounds_u8 (hb L[i] (List.getElem_mem hi'))).1
    · exact (bounds_u8 (hb L[i] (List.getElem_mem hi'))).2
    · rw [World.cell?_alloc_lt w _ _ (by show b < w.heap.size; omega)]
      exact hcell i _ (by rw [List.getElem?_map, List.getElem?_eq_getElem hi']; rfl)
  have HB : Hid (∀ n, Below w.heap.size w (w.alloc (.cells #[.slice A n cap, .int .i64 0] 66))) := fun n => (Below.refl _ _).alloc (Nat.le_refl _) _
  rw [List.length_map] at hl ⊢
  clear hc
  by_cases hk : 2000 < L.length
  · have hk' : 2000 ≤ cap := by omega
    go_enter Try.func47, Try.ntmps47
    go_wp2
    go_ret
    exact ⟨rfl, HC.out 2000 (by omega) (by omega), HB.out 2000, by simp⟩
  · go_enter Try.func47, Try.ntmps47
    go_wp2
    go_ret
    exact ⟨rfl, HC.out _ (by omega) (by omega), HB.out _, by simp⟩


/-- What a drawing law's helper leaves: nothing that was there has turned; Q of the value. -/
def Drawn (Q : Value → World → Prop) (w : World) (e : Ending) (w' : World) : Prop := ∃ v, e = .returned v ∧ Below w.heap.size w w' ∧ Q v w'
theorem drawn_of {g p k : Nat} {Q : Value → World → Prop} {w w1 w' : World} {e : Ending} (hb : Below w.heap.size w w1) (hg : w.heap.size ≤ g) (h : DrawPost g p k Q w1 e w') : Drawn Q w e w' := by
  obtain ⟨v, p', he, _, _, hk, hq⟩ := h
  exact ⟨v, he, hb.trans (below_of_grown hk hb.size hg), hq⟩
end Go.Proofs.Ytjmgkcmmhkpmhaa
