/- What the drawing functions hand back: its range alone. -/
import Derived.Test.YtcocknfdafmfnaaPick
import Derived.Laws.BytesString
import Derived.Laws.Concat
import Derived.LoopTactic
namespace Go.Proofs.Ytcocknfdafmfnaa
set_option linter.unusedVariables false
open Go.RowKit

theorem grown_trans {a b c : World} {row : Option Nat} (h : a.grownBy b row) (k : b.grownBy c row) : a.grownBy c row :=
  ⟨k.os.trans h.os, k.tape.trans h.tape, k.output.trans h.output, Nat.le_trans h.size k.size, fun i hi hne => (k.block i (Nat.lt_of_lt_of_le hi h.size) hne).trans (h.block i hi hne)⟩
theorem grown_alloc {a w : World} {row : Option Nat} (h : a.grownBy w row) (o : Obj) : a.grownBy (w.alloc o) row := grown_trans h (World.grownBy_alloc w o row)
theorem below_of_grown {a w : World} {g B : Nat} (h : a.grownBy w (some g)) (hB : B ≤ a.heap.size) (hg : B ≤ g) : Below B a w :=
  ⟨h.os, h.tape, h.output, h.size, fun k hk => h.block k (by omega) (by simp; omega)⟩
theorem grown_of_below {a w : World} {row : Option Nat} (h : Below a.heap.size a w) : a.grownBy w row := ⟨h.os, h.tape, h.output, h.size, fun k hk _ => h.block k hk⟩
theorem Rdr.alloc {w : World} {g p : Nat} (h : Rdr w g p) (o : Obj) : Rdr (w.alloc o) g p := h.below ((Below.refl w.heap.size w).alloc (Nat.le_refl _) o) h.lt
theorem own_grown {w w' : World} {base g : Nat} {e : TypeId} {v : Value} {L : List Value} (h : OW w base e v L) (hk : w.grownBy w' (some g)) (hb : g < base) : OW w' base e v L := by
  refine World.ownsRow.kept h hk ?_
  cases hv : v.ownBlock with
  | none => exact .inl rfl
  | some k => exact .inr (by have := World.ownsRow.lt h k hv; simp; omega)

theorem hidE {p : Prop} (h : p) : Hid p := h
/-- What a drawing function leaves: at most k places on; the reader's block alone turned; Q of the value and of the world. -/
def DrawPost (g p k : Nat) (Q : Value → World → Prop) (w : World) (e : Ending) (w' : World) : Prop :=
  ∃ (v : Value) (p' : Nat), e = .returned v ∧ p' ≤ p + k ∧ Rdr w' g p' ∧ w.grownBy w' (some g) ∧ Q v w'

theorem l6Open_any (v : Value) (L : List Int) (B : Nat) (w : World) (h : RV w B v (L.map (Value.int .u8))) (hb : ∀ n ∈ L, (Lit.int .u8 n).wf = true) (hB : B ≤ w.heap.size) :
    Calls Try.prog 22 #[v] w fun e w' => e = .returned (.pointer (some ⟨w.heap.size, 0, none⟩)) ∧ Rdr w' w.heap.size 0 ∧ Below w.heap.size w w' ∧ w.heap.size < w'.heap.size := by
  obtain ⟨A, cap, rfl, hl, hm, hc⟩ := h
  have HC : Hid (∀ n, n ≤ 2000 → n ≤ L.length → Rdr (w.alloc (.cells #[.slice A n cap, .int .i64 0] 62)) w.heap.size 0) := by
    intro n hn hnl
    refine ⟨A, n, cap, heap_alloc_new w _, hn, fun h0 => ?_⟩
    obtain ⟨b, off, hA, hbB, hcell⟩ := hc (by simp; omega)
    refine ⟨b, off, hA, by omega, fun i hi => ?_⟩
    have hi' : i < L.length := by omega
    refine ⟨L[i], ?_, ?_, ?_⟩
    · exact (bounds_u8 (hb L[i] (List.getElem_mem hi'))).1
    · exact (bounds_u8 (hb L[i] (List.getElem_mem hi'))).2
    · rw [World.cell?_alloc_lt w _ _ (by show b < w.heap.size; omega)]
      exact hcell i _ (by rw [List.getElem?_map, List.getElem?_eq_getElem hi']; rfl)
  have HB : Hid (∀ n, Below w.heap.size w (w.alloc (.cells #[.slice A n cap, .int .i64 0] 62))) := fun n => (Below.refl _ _).alloc (Nat.le_refl _) _
  rw [List.length_map] at hl ⊢
  clear hc
  by_cases hk : 2000 < L.length
  · have hk' : 2000 ≤ cap := by omega
    go_enter Try.func22, Try.ntmps22
    go_wp2
    go_ret
    exact ⟨rfl, HC.out 2000 (by omega) (by omega), HB.out 2000, by simp⟩
  · go_enter Try.func22, Try.ntmps22
    go_wp2
    go_ret
    exact ⟨rfl, HC.out _ (by omega) (by omega), HB.out _, by simp⟩

def DigQ (v : Value) (_ : World) : Prop := ∃ d : Int, v = .int .i64 d ∧ -1 ≤ d ∧ d ≤ 991
set_option maxHeartbeats 1000000 in
theorem l91Digest_any (g p : Nat) (w : World) (h : Rdr w g p) (hp : p ≤ 99000) : Calls Try.prog 48 #[.pointer (some ⟨g, 0, none⟩)] w (DrawPost g p 3 DigQ w) := by
  go_enter Try.func48, Try.ntmps48
  go_wp2_with fail
  (with_reducible refine (pick_any g p 20 _ h (by omega) (by omega) (by omega)).mono ?_)
  rintro _ w1 ⟨x, rfl, x0, x1, h1, k1⟩
  by_cases hx : x = 0
  · subst hx
    go_wp2_with fail
    (with_reducible refine (pick_any g (p + 1) 4 _ (h1.alloc _) (by omega) (by omega) (by omega)).mono ?_)
    rintro _ w2 ⟨y, rfl, y0, y1, h2, k2⟩
    have hlt1 := h1.lt
    have q : ∀ (i : Nat) (u : Value), #[Value.int .i64 (-1), .int .i64 0, .int .i64 990, .int .i64 991][i]? = some u → w2.cell? ⟨w1.heap.size, i, none⟩ = some u := fun i u hu =>
      k2.cell (by rw [cell_of_row _ _ i _ _ _ (heap_alloc_new w1 _)]; exact hu) (by simp; omega)
    have fin : ∀ d : Int, -1 ≤ d → d ≤ 991 → DrawPost g p 3 DigQ w (.returned (.int .i64 d)) w2 := fun d d0 d1 =>
      ⟨_, p + 2, rfl, by omega, h2, grown_trans (grown_alloc k1 _) k2, d, rfl, d0, d1⟩
    have FIN := hidE fin
    clear fin
    have q0 := q 0 _ rfl
    have q1 := q 1 _ rfl
    have q2 := q 2 _ rfl
    have q3 := q 3 _ rfl
    clear q
    rcases (show y = 0 ∨ y = 1 ∨ y = 2 ∨ y = 3 by omega) with rfl | rfl | rfl | rfl
    all_goals
      go_wp2_with fail
      go_ret
      exact FIN.out _ (by omega) (by omega)
  · have hx' : (x == (0 : Int)) = false := by simp [hx]
    clear hx
    go_wp2_with fail
    (with_reducible refine (pick_any g (p + 1) 99 _ h1 (by omega) (by omega) (by omega)).mono ?_)
    rintro _ w2 ⟨y, rfl, y0, y1, h2, k2⟩
    go_wp2_with fail
    (with_reducible refine (pick_any g (p + 2) 10 _ h2 (by omega) (by omega) (by omega)).mono ?_)
    rintro _ w3 ⟨z, rfl, z0, z1, h3, k3⟩
    go_wp2_with fail
    go_ret
    exact ⟨_, p + 3, rfl, by omega, h3, grown_trans k1 (grown_trans k2 k3), _, rfl, by omega, by omega⟩
def SecQ (v : Value) (_ : World) : Prop := ∃ d : Int, v = .int .i64 d ∧ -1 ≤ d ∧ d ≤ 997
set_option maxHeartbeats 1000000 in
theorem l91Secret_any (g p : Nat) (w : World) (h : Rdr w g p) (hp : p ≤ 99000) : Calls Try.prog 38 #[.pointer (some ⟨g, 0, none⟩)] w (DrawPost g p 3 SecQ w) := by
  go_enter Try.func38, Try.ntmps38
  go_wp2_with fail
  (with_reducible refine (pick_any g p 20 _ h (by omega) (by omega) (by omega)).mono ?_)
  rintro _ w1 ⟨x, rfl, x0, x1, h1, k1⟩
  by_cases hx : x = 0
  · subst hx
    go_wp2_with fail
    (with_reducible refine (pick_any g (p + 1) 4 _ (h1.alloc _) (by omega) (by omega) (by omega)).mono ?_)
    rintro _ w2 ⟨y, rfl, y0, y1, h2, k2⟩
    have hlt1 := h1.lt
    have q : ∀ (i : Nat) (u : Value), #[Value.int .i64 0, .int .i64 996, .int .i64 997, .int .i64 (-1)][i]? = some u → w2.cell? ⟨w1.heap.size, i, none⟩ = some u := fun i u hu =>
      k2.cell (by rw [cell_of_row _ _ i _ _ _ (heap_alloc_new w1 _)]; exact hu) (by simp; omega)
    have fin : ∀ d : Int, -1 ≤ d → d ≤ 997 → DrawPost g p 3 SecQ w (.returned (.int .i64 d)) w2 := fun d d0 d1 =>
      ⟨_, p + 2, rfl, by omega, h2, grown_trans (grown_alloc k1 _) k2, d, rfl, d0, d1⟩
    have FIN := hidE fin
    clear fin
    have q0 := q 0 _ rfl
    have q1 := q 1 _ rfl
    have q2 := q 2 _ rfl
    have q3 := q 3 _ rfl
    clear q
    rcases (show y = 0 ∨ y = 1 ∨ y = 2 ∨ y = 3 by omega) with rfl | rfl | rfl | rfl
    all_goals
      go_wp2_with fail
      go_ret
      exact FIN.out _ (by omega) (by omega)
  · have hx' : (x == (0 : Int)) = false := by simp [hx]
    clear hx
    go_wp2_with fail
    (with_reducible refine (pick_any g (p + 1) 99 _ h1 (by omega) (by omega) (by omega)).mono ?_)
    rintro _ w2 ⟨y, rfl, y0, y1, h2, k2⟩
    go_wp2_with fail
    (with_reducible refine (pick_any g (p + 2) 10 _ h2 (by omega) (by omega) (by omega)).mono ?_)
    rintro _ w3 ⟨z, rfl, z0, z1, h3, k3⟩
    go_wp2_with fail
    go_ret
    exact ⟨_, p + 3, rfl, by omega, h3, grown_trans k1 (grown_trans k2 k3), _, rfl, by omega, by omega⟩

/-- What a drawing law's helper leaves: nothing that was there has turned; Q of the value. -/
def Drawn (Q : Value → World → Prop) (w : World) (e : Ending) (w' : World) : Prop := ∃ v, e = .returned v ∧ Below w.heap.size w w' ∧ Q v w'
theorem drawn_of {g p k : Nat} {Q : Value → World → Prop} {w w1 w' : World} {e : Ending} (hb : Below w.heap.size w w1) (hg : w.heap.size ≤ g) (h : DrawPost g p k Q w1 e w') : Drawn Q w e w' := by
  obtain ⟨v, p', he, _, _, hk, hq⟩ := h
  exact ⟨v, he, hb.trans (below_of_grown hk hb.size hg), hq⟩
end Go.Proofs.Ytcocknfdafmfnaa
