/- An append of one element to a row of the call's own. -/
import Derived.Test.YtjmgkcmmhkpmhaaSlice
import Derived.OwnWalk
namespace Go.Proofs.Ytjmgkcmmhkpmhaa
set_option linter.unusedVariables false
open Go.RowKit

theorem infoInt : (Try.prog.info? 3).map (fun i => (i.zero, i.size, i.bytes)) = some (some (.int .i64 0), 1, 8) := by kernel_rfl
theorem infoBool : (Try.prog.info? 4).map (fun i => (i.zero, i.size, i.bytes)) = some (some (.bool false), 1, 1) := by kernel_rfl

theorem wpList_push {P : Program} (w : World) {ops : Array Oper} {rest : List Oper} {o : Oper} {a : Act} {Q : Exit → Act → World → Prop} (hgd : o.guard = none) (s x : Operand) (t : TypeId)
    (ho : o.op = .call { callee := .builtin .append, args := #[s, x], argTypes := #[t, t] })
    (base : Nat) (e : TypeId) (i : TypeInfo) (z : Value) (bytes : Nat) (ht : P.underlying t = some (.slice e)) (hi : P.info? e = some i) (hz : i.zero = some z)
    (hsize : i.size = 1) (hby : i.bytes = bytes) (hzs : z.cells.size = 1)
    (v : Value) (L : List Value) (hs : a.eval s = v) (hown : OW w base e v L) (u : Value) (hu : u.oneCell' = true)
    (hx : a.eval x = .slice (some ⟨w.heap.size, 0, none⟩) 1 1) (hlen : L.length ≤ 33554432) (hb16 : bytes ≤ 16) (hbase : base ≤ w.heap.size)
    (h : ∀ v' w', OW w' base e v' (L ++ [u]) → Below base w w' → wpList P ops Q rest (a.put o.dst v') w') : wpList P ops Q (o :: rest) a (w.alloc (.cells #[u] e)) := by
  refine wpList_append_own (w.alloc (.cells #[u] e)) hgd s x t ho base e i z 1 bytes ht hi hz hsize hby hzs (by decide) v L.length L hs (World.ownsRow.alloc hown _) ⟨w.heap.size, 0, none⟩ 1 1 [u] hx rfl ?_ ?_ ?_ ?_ ?_ ?_
  · intro j y hj
    match j, hj with
    | 0, hj =>
      simp at hj; subst hj
      have : (⟨w.heap.size, 0, none⟩ : Addr).add 0 = ⟨w.heap.size, 0, none⟩ := by simp [Addr.add]
      rw [this, cell_of_row _ _ 0 _ _ _ (heap_alloc_new w _)]; rfl
  · intro y hy; simp at hy; subst hy; exact hu
  · unfold maxLen; omega
  · calc (L.length + 1) * bytes ≤ (L.length + 1) * 16 := Nat.mul_le_mul_left _ hb16
      _ ≤ 140737488355328 := by omega
  · have : (w.alloc (.cells #[u] e)).heap.size = w.heap.size + 1 := by simp
    omega
  · intro v' w' hown' hg _
    refine h v' w' (OW.len hown') ?_
    refine ((Below.refl base w).alloc hbase _).grown hg (by simp; omega) ?_
    intro k hk
    exact (World.ownsRow.lt hown k hk).1

theorem own_form {w : World} {base : Nat} {e : TypeId} {v : Value} {L : List Value} (h : OW w base e v L) (h0 : 0 < L.length) : ∃ g cap, v = .slice (some ⟨g, 0, none⟩) L.length cap ∧ L.length ≤ cap ∧ base ≤ g ∧ g < w.heap.size := by
  rcases h.2 with ⟨_, h1⟩ | ⟨g, cap, cur, hv, hb, hg, hnc, _⟩
  · omega
  · refine ⟨g, cap, hv, hnc, hb, ?_⟩
    rcases Nat.lt_or_ge g w.heap.size with hlt | hge
    · exact hlt
    · rw [Array.getElem?_eq_none hge] at hg; cases hg
theorem own_empty {w : World} {base : Nat} {e : TypeId} (hb : base ≤ w.heap.size) : OW (w.alloc (.cells #[] e)) base e (.slice (some ⟨w.heap.size, 0, none⟩) 0 0) [] :=
  World.ownsRow_lit w #[] 0 hb (Nat.zero_le _) rfl
theorem own_nil (w : World) (base : Nat) (e : TypeId) : OW w base e (.slice none 0 0) [] := World.ownsRow_nil _ _ _ _
theorem OW.next {w w' : World} {base B : Nat} {e : TypeId} {v : Value} {L : List Value} (h : OW w base e v L) (hb : Below B w w') (hB : w.heap.size ≤ B) : OW w' base e v L :=
  own_same h fun k hk => hb.block k (Nat.lt_of_lt_of_le (World.ownsRow.lt h k hk).2 hB)
theorem OW.alloc {w : World} {base : Nat} {e : TypeId} {v : Value} {L : List Value} (h : OW w base e v L) (o : Obj) : OW (w.alloc o) base e v L := World.ownsRow.alloc h o
theorem OW.drewN {w : World} {base : Nat} {e : TypeId} {v : Value} {L : List Value} (h : OW w base e v L) (n : Nat) : OW (w.drewN n) base e v L := h
theorem newrow_of {w w' : World} {e : TypeId} {v : Value} {L : List Value} (h : OW w' w.heap.size e v L) (hb : Below w.heap.size w w') : NewRow w e L (.returned v) w' := ⟨v, rfl, Row.of h, hb⟩
end Go.Proofs.Ytjmgkcmmhkpmhaa
