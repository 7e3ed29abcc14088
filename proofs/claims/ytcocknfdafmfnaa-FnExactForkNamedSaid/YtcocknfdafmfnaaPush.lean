/- An append of one element to a row of the call's own. -/
import Derived.Test.YtcocknfdafmfnaaSlice
import Derived.OwnWalk
namespace Go.Proofs.Ytcocknfdafmfnaa
set_option linter.unusedVariables false
open Go.RowKit

theorem infoInt : (Try.prog.info? 3).map (fun i => (i.zero, i.size, i.bytes)) = some (some (.int .i64 0), 1, 8) := by kernel_rfl
theorem infoBool : (Try.prog.info? 4).map (fun i => (i.zero, i.size, i.bytes)) = some (some (.bool false), 1, 1) := by kernel_rfl

theorem wpList_push {P : Program} (w : World) {ops : Array Oper} {rest : List Oper} {o : Oper} {a : Act} {Q : Exit → Act → World → Prop} (hgd : o.guard = none) (s x : Operand) (t : TypeId)
    (ho : o.op = .call { callee := .builtin .append, args := #[s, x], argTypes := #[t, t] })
    (base : Nat) (e : TypeId) (i : TypeInfo) (z : Value) (bytes : Nat) (ht : P.underlying t = some (.slice e)) (hi : P.info? e = some i) (hz : i.zero = some z)
    (hsize : i.size = 1) (hby : i.bytes = bytes) (hzs : z.cells.size = 1)
    (v : Value) (L : List Value) (hs : a.eval s = v) (hown : OW w base e v L) (u : Value) (hu : u.oneCell' = true)
    (hx : a.eval x = .slice (some ⟨w.heap.size, 0, none⟩) 1 1) (hlen : L.length ≤ 33554432) (hb16 : bytes ≤ 16) (hbase : base ≤ w.heap.size)
    (h : ∀ v' w', OW w' base e v' (L ++ [u]) → Below base w w' → wpList P ops Q rest (a.put o.dst v') w') : wpList P ops Q (o :: rest) a (w.alloc (.cells #[u] e)) := by
  refine wpList_append_own (w.alloc (.cells #[u] e)) hgd s x t ho base e i z 1 bytes ht hi hz hsize hby hzs (by decide) v L.length L hs (World.ownsRow.alloc hown _) ⟨w.heap.size, 0, none⟩ 1 1 [u] hx rfl ?_ ?_ ?_ ?_ ?_ ?_
  · intro j y hj
    match j, hj with
    | 0, hj =>
      simp at hj; subst hj
      have : (⟨w.heap.size, 0, none⟩ : Addr).add 0 = ⟨w.heap.size, 0, none⟩ := by simp [Addr.add]
      rw [this, cell_of_row _ _ 0 _ _ _ (heap_alloc_new w _)]; rfl
  · intro y hy; simp at hy; subst hy; exact hu
  · unfold maxLen; omega
  · calc (L.length + 1) * bytes ≤ (L.length + 1) * 16 := Nat.mul_le_mul_left _ hb16
      _ ≤ 140737488355328 := by omega
  · have : (w.alloc (.cells #[u] e)).heap.size = w.heap.size + 1 := by simp
    omega
  · intro v' w' hown' hg _
    refine h v' w' (OW.len hown') ?_
    refine ((Below.refl base w).alloc hbase _).grown hg (by simp; omega) ?_
    intro k hk
    exact (World.ownsRow.lt hown k hk).1

theorem run_append_empty {P : Program} (w : World) (base : Nat) (t ty e : TypeId) (i : TypeInfo) (ht : P.underlying t = some (.slice e)) (hi : P.info? e = some i)
    (v : Value) (n : Nat) (xs : List Value) (hown : w.ownsRow base e 1 v n xs) (c : Nat) : (Builtin.append_ #[t, t] ty #[v, .slice none 0 c]).run P w = .ok v w := by
  rcases hown.2 with ⟨rfl, rfl⟩ | ⟨g, cap, cur, rfl, _, _, hnc, _⟩
  · simp [Builtin.append_, run_underlying ht, sizeOf, typeInfo, hi, Builtin.lenOf, Builtin.firstCells]
  · simp [Builtin.append_, run_underlying ht, sizeOf, typeInfo, hi, Builtin.lenOf, Builtin.firstCells, hnc, storeCells]

/-- An append of a slice that reads as M to a row of the call's own. -/
theorem wpList_append_rv {P : Program} (w : World) {ops : Array Oper} {rest : List Oper} {o : Oper} {a : Act} {Q : Exit → Act → World → Prop} (hgd : o.guard = none) (s x : Operand) (t : TypeId)
    (ho : o.op = .call { callee := .builtin .append, args := #[s, x], argTypes := #[t, t] })
    (base : Nat) (e : TypeId) (i : TypeInfo) (z : Value) (bytes : Nat) (ht : P.underlying t = some (.slice e)) (hi : P.info? e = some i) (hz : i.zero = some z)
    (hsize : i.size = 1) (hby : i.bytes = bytes) (hzs : z.cells.size = 1)
    (v : Value) (L : List Value) (hs : a.eval s = v) (hown : OW w base e v L) (xv : Value) (hx : a.eval x = xv) (B : Nat) (M : List Value) (hM : RV w B xv M) (h1 : ∀ u ∈ M, u.oneCell' = true)
    (hlen : L.length + M.length ≤ 33554432) (hb16 : bytes ≤ 16) (hbase : base ≤ w.heap.size)
    (h : ∀ v' w', OW w' base e v' (L ++ M) → Below base w w' → wpList P ops Q rest (a.put o.dst v') w') : wpList P ops Q (o :: rest) a w := by
  obtain ⟨A, cap, rfl, hl, hm, hc⟩ := hM
  rcases A with _ | ad
  · have hM0 : M = [] := by
      rcases Nat.eq_zero_or_pos M.length with h0 | h0
      · exact List.eq_nil_of_length_eq_zero h0
      · obtain ⟨b, off, hA, _⟩ := hc h0; cases hA
    subst hM0
    refine wpList_plain hgd fun K hK => ?_
    have hr := run_append_empty (P := P) w base t o.type e i ht hi v L.length L hown cap
    unfold Oper.wp
    simp only [List.length_nil] at hx
    simp [execOp, ho, resolve, invoke, builtin, hs, hx, hr, Result.andThen]
    exact hK _ _ (h v w (by simpa using hown) (Below.refl _ _))
  · refine wpList_append_own w hgd s x t ho base e i z 1 bytes ht hi hz hsize hby hzs (by decide) v L.length L hs hown ad M.length cap M hx (by simp) ?_ h1 ?_ ?_ hbase ?_
    · intro j u hj
      have hlt : j < M.length := by
        rcases Nat.lt_or_ge j M.length with h2 | h2
        · exact h2
        · rw [List.getElem?_eq_none h2] at hj; cases hj
      obtain ⟨b, off, hA, _, hcell⟩ := hc (by omega)
      simp only [Option.some.injEq] at hA
      subst hA
      have := hcell j u hj
      by_cases h0 : j = 0
      · subst h0; simpa [Addr.add] using this
      · simpa [Addr.add, h0] using this
    · unfold maxLen; omega
    · calc (L.length + M.length) * bytes ≤ (L.length + M.length) * 16 := Nat.mul_le_mul_left _ hb16
        _ ≤ 140737488355328 := by omega
    · intro v' w' hown' hg _
      exact h v' w' (OW.len hown') ((Below.refl base w).grown hg hbase fun k hk => (World.ownsRow.lt hown k hk).1)

theorem one_ints (L : List Int) : ∀ u ∈ L.map (Value.int .i64), u.oneCell' = true := by
  intro u hu; obtain ⟨n, _, rfl⟩ := List.mem_map.1 hu; rfl
theorem one_bools (L : List Bool) : ∀ u ∈ L.map Value.bool, u.oneCell' = true := by
  intro u hu; obtain ⟨n, _, rfl⟩ := List.mem_map.1 hu; rfl
theorem row_shape {w : World} {lo hi : Nat} {e : TypeId} {v : Value} {L : List Value} (h : Row w lo hi e v L) : ∃ A cap, v = .slice A L.length cap ∧ L.length ≤ cap ∧ cap ≤ maxLen := by
  obtain ⟨A, cap, hv, hl, hm, _⟩ := h.rv
  exact ⟨A, cap, hv, hl, hm⟩
theorem rv_take {w : World} {B : Nat} {A : Option Addr} {cap n k : Nat} {L : List Value} (h : RV w B (.slice A n cap) L) (hk : k ≤ L.length) : RV w B (.slice A k cap) (L.take k) := by
  obtain ⟨A', cap', hv, hl, hm, hc⟩ := h
  simp only [Value.slice.injEq] at hv
  obtain ⟨rfl, rfl, rfl⟩ := hv
  have hlen : (L.take k).length = k := by rw [List.length_take]; omega
  refine ⟨A, cap, by rw [hlen], by omega, hm, fun h0 => ?_⟩
  obtain ⟨b, off, hA, hb, hcell⟩ := hc (by omega)
  refine ⟨b, off, hA, hb, fun i u hu => hcell i u ?_⟩
  rw [List.getElem?_take] at hu
  split at hu
  · exact hu
  · cases hu
theorem rv_drop {w : World} {B : Nat} {b off cap n k c : Nat} {L : List Value} (h : RV w B (.slice (some ⟨b, off, none⟩) n cap) L) (hk : k ≤ L.length) (hc : c = cap - k) : RV w B (.slice (some ⟨b, off + k, none⟩) (n - k) c) (L.drop k) := by
  obtain ⟨A', cap', hv, hl, hm, hcc⟩ := h
  simp only [Value.slice.injEq] at hv
  obtain ⟨rfl, rfl, rfl⟩ := hv
  have hlen : (L.drop k).length = L.length - k := by rw [List.length_drop]
  refine ⟨_, c, by rw [hlen], by omega, by omega, fun h0 => ?_⟩
  obtain ⟨b', off', hA, hb, hcell⟩ := hcc (by omega)
  simp only [Option.some.injEq, Addr.mk.injEq, and_true] at hA
  obtain ⟨rfl, rfl⟩ := hA
  refine ⟨b, off + k, rfl, hb, fun i u hu => ?_⟩
  rw [List.getElem?_drop] at hu
  rw [Nat.add_assoc]
  exact hcell _ u hu

theorem own_form {w : World} {base : Nat} {e : TypeId} {v : Value} {L : List Value} (h : OW w base e v L) (h0 : 0 < L.length) : ∃ g cap, v = .slice (some ⟨g, 0, none⟩) L.length cap ∧ L.length ≤ cap ∧ base ≤ g ∧ g < w.heap.size := by
  rcases h.2 with ⟨_, h1⟩ | ⟨g, cap, cur, hv, hb, hg, hnc, _⟩
  · omega
  · refine ⟨g, cap, hv, hnc, hb, ?_⟩
    rcases Nat.lt_or_ge g w.heap.size with hlt | hge
    · exact hlt
    · rw [Array.getElem?_eq_none hge] at hg; cases hg
theorem own_empty {w : World} {base : Nat} {e : TypeId} (hb : base ≤ w.heap.size) : OW (w.alloc (.cells #[] e)) base e (.slice (some ⟨w.heap.size, 0, none⟩) 0 0) [] :=
  World.ownsRow_lit w #[] 0 hb (Nat.zero_le _) rfl
theorem own_nil (w : World) (base : Nat) (e : TypeId) : OW w base e (.slice none 0 0) [] := World.ownsRow_nil _ _ _ _
theorem OW.next {w w' : World} {base B : Nat} {e : TypeId} {v : Value} {L : List Value} (h : OW w base e v L) (hb : Below B w w') (hB : w.heap.size ≤ B) : OW w' base e v L :=
  own_same h fun k hk => hb.block k (Nat.lt_of_lt_of_le (World.ownsRow.lt h k hk).2 hB)
theorem OW.alloc {w : World} {base : Nat} {e : TypeId} {v : Value} {L : List Value} (h : OW w base e v L) (o : Obj) : OW (w.alloc o) base e v L := World.ownsRow.alloc h o
theorem OW.drewN {w : World} {base : Nat} {e : TypeId} {v : Value} {L : List Value} (h : OW w base e v L) (n : Nat) : OW (w.drewN n) base e v L := h
theorem newrow_of {w w' : World} {e : TypeId} {v : Value} {L : List Value} (h : OW w' w.heap.size e v L) (hb : Below w.heap.size w w') : NewRow w e L (.returned v) w' := ⟨v, rfl, Row.of h, hb⟩
end Go.Proofs.Ytcocknfdafmfnaa
