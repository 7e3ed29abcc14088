/- Plain words for memory: a slice value that reads as a list of values, in memory below a block number. No program in sight. -/
import Derived.WalkKit
import Derived.Below
import Derived.Laws.OwnMore
import Derived.OwnWalk
namespace Go.Proofs.Ytcocknfdafmfnaa
set_option linter.unusedVariables false
open Go.RowKit

/-- The slice value v has the elements L; where there are any, they lie in a block below B. -/
def RV (w : World) (B : Nat) (v : Value) (L : List Value) : Prop :=
  ∃ A cap, v = .slice A L.length cap ∧ L.length ≤ cap ∧ cap ≤ maxLen ∧
    (0 < L.length → ∃ b off, A = some ⟨b, off, none⟩ ∧ b < B ∧ ∀ i u, L[i]? = some u → w.cell? ⟨b, off + i, none⟩ = some u)

section
variable {w w' : World} {B B' : Nat} {v : Value} {L : List Value}

theorem RV.keep (h : RV w B v L) (hk : ∀ b o, b < B → w'.cell? ⟨b, o, none⟩ = w.cell? ⟨b, o, none⟩) : RV w' B v L := by
  obtain ⟨A, cap, hv, hl, hm, hc⟩ := h
  refine ⟨A, cap, hv, hl, hm, fun h0 => ?_⟩
  obtain ⟨b, off, hA, hb, hcell⟩ := hc h0
  exact ⟨b, off, hA, hb, fun i u hu => (hk _ _ hb).trans (hcell i u hu)⟩

theorem RV.mono (h : RV w B v L) (hB : B ≤ B') : RV w B' v L := by
  obtain ⟨A, cap, hv, hl, hm, hc⟩ := h
  refine ⟨A, cap, hv, hl, hm, fun h0 => ?_⟩
  obtain ⟨b, off, hA, hb, hcell⟩ := hc h0
  exact ⟨b, off, hA, by omega, hcell⟩

theorem RV.below {B0 : Nat} (h : RV w B v L) (hb : Below B0 w w') (hB : B ≤ B0) : RV w' B v L :=
  h.keep fun b o hlt => hb.cell (p := ⟨b, o, none⟩) (by show b < B0; omega)

theorem RV.nil_ (w : World) (B cap : Nat) (A : Option Addr) (hm : cap ≤ maxLen) : RV w B (.slice A 0 cap) [] :=
  ⟨A, cap, rfl, Nat.zero_le _, hm, fun h => absurd h (by simp)⟩

theorem RV.of_own {base e n : Nat} (h : w.ownsRow base e 1 v n L) : RV w w.heap.size v L := by
  have hlen : L.length = n := by have := h.1; omega
  rcases h.2 with ⟨rfl, h0⟩ | ⟨g, cap, cur, hv, hbg, hg, hnc, hm, _, _⟩
  · subst h0
    have : L = [] := List.eq_nil_of_length_eq_zero hlen
    subst this
    exact RV.nil_ _ _ _ _ (Nat.zero_le _)
  · subst hv
    subst hlen
    refine ⟨_, cap, rfl, hnc, hm, fun _ => ⟨g, 0, rfl, ?_, fun i u hu => ?_⟩⟩
    · rcases Nat.lt_or_ge g w.heap.size with hlt | hge
      · exact hlt
      · rw [Array.getElem?_eq_none hge] at hg; cases hg
    · have hi : i < L.length := by
        rcases Nat.lt_or_ge i L.length with hlt | hge
        · exact hlt
        · rw [List.getElem?_eq_none hge] at hu; cases hu
      rw [Nat.zero_add, h.cellAt i (by omega), hu]

theorem RV.length_le (h : RV w B v L) : L.length ≤ maxLen := by
  obtain ⟨A, cap, _, hl, hm, _⟩ := h
  omega
end

/-- What the call owns. -/
def OW (w : World) (base : Nat) (e : TypeId) (v : Value) (L : List Value) : Prop := w.ownsRow base e 1 v L.length L

section
variable {w w' : World} {B base : Nat} {e : TypeId} {v : Value} {L : List Value}
theorem OW.rv (h : OW w base e v L) : RV w w.heap.size v L := RV.of_own h
theorem OW.rv' (h : OW w base e v L) (hB : w.heap.size ≤ B) : RV w B v L := (RV.of_own h).mono hB
theorem OW.below (h : OW w base e v L) (hb : Below w.heap.size w w') : OW w' base e v L := by
  refine World.ownsRow.kept (row := none) h ⟨hb.os, hb.tape, hb.output, hb.size, fun k hk _ => hb.block k hk⟩ ?_
  cases hv : v.ownBlock with
  | none => exact .inl rfl
  | some k => exact .inr (by simp)
theorem OW.len {n : Nat} (h : w.ownsRow base e 1 v n L) : OW w base e v L := by
  have hlen : L.length = n := by have := h.1; omega
  unfold OW; rw [hlen]; exact h
end


theorem bstep {w w1 w2 : World} (h : Below w.heap.size w w1) (h2 : Below w1.heap.size w1 w2) : Below w.heap.size w w2 := h.trans (h2.mono h.size)
theorem balloc {w w1 : World} (h : Below w.heap.size w w1) (o : Obj) : Below w.heap.size w (w1.alloc o) := h.alloc h.size o
theorem bnew (w : World) (o : Obj) : Below w.heap.size w (w.alloc o) := (Below.refl _ _).alloc (Nat.le_refl _) o

/-- Block g is these cells. -/
def Box (w : World) (g : Nat) (t : TypeId) (cs : Array Value) : Prop := w.heap[g]? = some (.cells cs t (0, 0))
section
variable {w w' : World} {g : Nat} {t : TypeId} {cs : Array Value}
theorem Box.new (w : World) (t : TypeId) (cs : Array Value) : Box (w.alloc (.cells cs t)) w.heap.size t cs := heap_alloc_new w _
theorem Box.lt (h : Box w g t cs) : g < w.heap.size := by
  rcases Nat.lt_or_ge g w.heap.size with hlt | hge
  · exact hlt
  · unfold Box at h; rw [Array.getElem?_eq_none hge] at h; cases h
theorem Box.next (h : Box w g t cs) (hb : Below w.heap.size w w') : Box w' g t cs := (hb.block g h.lt).trans h
theorem Box.below {B : Nat} (h : Box w g t cs) (hb : Below B w w') (hg : g < B) : Box w' g t cs := (hb.block g hg).trans h
theorem Box.alloc (h : Box w g t cs) (o : Obj) : Box (w.alloc o) g t cs := h.next (bnew w o)
theorem Box.cell (h : Box w g t cs) (i : Nat) : w.cell? ⟨g, i, none⟩ = cs[i]? := cell_of_row w g i cs t (0, 0) h
theorem Box.frozen (h : Box w g t cs) (i : Nat) : w.frozen? ⟨g, i, none⟩ = false := frozen_of_row w g i cs t h
theorem Box.c3 {a b c : Value} (h : Box w g t #[a, b, c]) : w.cell? ⟨g, 0, none⟩ = some a ∧ w.cell? ⟨g, 1, none⟩ = some b ∧ w.cell? ⟨g, 2, none⟩ = some c := ⟨h.cell 0, h.cell 1, h.cell 2⟩
theorem Box.c7 {a b c d e f k : Value} (h : Box w g t #[a, b, c, d, e, f, k]) :
    w.cell? ⟨g, 0, none⟩ = some a ∧ w.cell? ⟨g, 1, none⟩ = some b ∧ w.cell? ⟨g, 2, none⟩ = some c ∧ w.cell? ⟨g, 3, none⟩ = some d ∧ w.cell? ⟨g, 4, none⟩ = some e ∧ w.cell? ⟨g, 5, none⟩ = some f ∧ w.cell? ⟨g, 6, none⟩ = some k :=
  ⟨h.cell 0, h.cell 1, h.cell 2, h.cell 3, h.cell 4, h.cell 5, h.cell 6⟩
end

end Go.Proofs.Ytcocknfdafmfnaa
