/- What the functions hand back that draw leaves. -/
import Derived.Test.YtcocknfdafmfnaaDraw
import Derived.Test.YtcocknfdafmfnaaTD
import Derived.Lib.AppendZerosOnto
namespace Go.Proofs.Ytcocknfdafmfnaa
set_option linter.unusedVariables false
open Go.RowKit

theorem grown_belowC {a b c : World} {row : Option Nat} (h : a.grownBy b row) (k : Below a.heap.size b c) : a.grownBy c row :=
  ⟨k.os.trans h.os, k.tape.trans h.tape, k.output.trans h.output, Nat.le_trans h.size k.size, fun i hi hne => (k.block i hi).trans (h.block i hi hne)⟩
theorem own_atC {α : Type} {con : α → Value} {w : World} {base k : Nat} {e : TypeId} {v : Value} {D : List α} {x : α} (h : OW w base e v (D.map con)) (hx : D[k]? = some x) :
    ∃ g cap, v = .slice (some ⟨g, 0, none⟩) D.length cap ∧ D.length ≤ cap ∧ w.cell? ⟨g, k, none⟩ = some (con x) ∧ w.frozen? ⟨g, k, none⟩ = false ∧ base ≤ g ∧
      ∀ y, OW (w.setCell ⟨g, k, none⟩ (con y)) base e v ((D.set k y).map con) ∧ Below base w (w.setCell ⟨g, k, none⟩ (con y)) := by
  have hlt : k < D.length := by
    rcases Nat.lt_or_ge k D.length with h' | h'
    · exact h'
    · rw [List.getElem?_eq_none h'] at hx; cases hx
  obtain ⟨g, cap, rfl, hc, hb, hg⟩ := own_form h (by rw [List.length_map]; omega)
  have h' := h
  unfold OW at h'
  rw [List.length_map] at h' hc ⊢
  refine ⟨g, cap, rfl, hc, ?_, h'.frozenAt _, hb, fun y => ⟨?_, (Below.refl _ _).setCell hb _⟩⟩
  · rw [h'.cellAt _ (by omega), List.getElem?_map, hx]; rfl
  · have := (h'.stored k (con y)).1
    rw [← List.map_set] at this
    exact OW.len this

theorem rv_new (w : World) (c : Array Value) (e : TypeId) (L : List Value) (n : Nat) (hn : n = L.length) (h : ∀ (i : Nat) (x : Value), L[i]? = some x → c[i]? = some x) (hm : L.length ≤ maxLen) :
    RV (w.alloc (.cells c e)) (w.alloc (.cells c e)).heap.size (.slice (some ⟨w.heap.size, 0, none⟩) n n) L := by
  subst hn
  refine ⟨_, _, rfl, Nat.le_refl _, hm, fun h0 => ⟨_, 0, rfl, by simp, fun i x hx => ?_⟩⟩
  rw [Nat.zero_add, cell_of_row _ _ i _ _ _ (heap_alloc_new w _)]
  exact h i x hx
def zeros : List Value := (List.replicate 12 (0 : Int)).map (Value.int .i64)
theorem zeroCells_zeros : Builtin.zeroCells (Value.int .i64 0).cells 12 = zeros.toArray := by first | rfl | kernel_rfl | (simp [Builtin.zeroCells, zeros, Value.cells]; rfl)
/-- An append of 'make([]int, 12)' to a row of the call's own: the builtin is handed the number. -/
theorem run_append_zeros {P : Program} (w : World) (base : Nat) (t tn ty e : TypeId) (i : TypeInfo) (kn : IntKind) (ht : P.underlying t = some (.slice e)) (htn : P.underlying tn = some (.int kn)) (hi : P.info? e = some i) (hz : i.zero = some (.int .i64 0))
    (hsize : i.size = 1) (hby : i.bytes = 8) (v : Value) (L : List Value) (hown : OW w base e v L) (hl : L.length ≤ 1000) (hbase : base ≤ w.heap.size) :
    ∃ v' w', (Builtin.append_ #[t, tn] ty #[v, .int .i64 12]).run P w = .ok v' w' ∧ OW w' base e v' (L ++ zeros) ∧ w.grownBy w' v.ownBlock := by
  have hzl : zeros.length = 12 := rfl
  have hlen : (L ++ zeros).length = L.length + 12 := by rw [List.length_append, hzl]
  have grown : ∀ (old : Nat) (row : Option Nat),
      OW (w.drew.alloc (.cells (L.toArray ++ Builtin.zeroCells (Value.int .i64 0).cells 12 ++ Builtin.zeroCells (Value.int .i64 0).cells (grownCap w (L.length + 12) old e - (L.length + 12))) e)) base e
        (.slice (some ⟨w.heap.size, 0, none⟩) (L.length + 12) (grownCap w (L.length + 12) old e)) (L ++ zeros) ∧
      w.grownBy (w.drew.alloc (.cells (L.toArray ++ Builtin.zeroCells (Value.int .i64 0).cells 12 ++ Builtin.zeroCells (Value.int .i64 0).cells (grownCap w (L.length + 12) old e - (L.length + 12))) e)) row := by
    intro old row
    have hge := grownCap_ge w (L.length + 12) old e
    have hcm : grownCap w (L.length + 12) old e ≤ maxLen := grownCap_le_maxLen w (L.length + 12) old e (by unfold maxLen; omega)
    refine ⟨?_, ⟨rfl, rfl, rfl, by simp, fun k hk _ => heap_alloc_old w.drew _ hk⟩⟩
    unfold OW
    rw [hlen]
    refine ⟨by rw [hlen, Nat.mul_one], .inr ⟨w.heap.size, _, _, rfl, hbase, heap_alloc_new w.drew _, hge, hcm, ?_, ?_⟩⟩
    · rw [zeroCells_zeros]
      simp only [Array.size_append, List.size_toArray, size_zeroCells, hzl, Value.cells]
      simp
      omega
    · rw [zeroCells_zeros]
      simp only [Array.toList_append, List.append_assoc, Nat.mul_one]
      rw [← List.append_assoc, ← hlen]
      exact List.take_left
  have hw := hown
  unfold OW at hw
  rcases hw.2 with ⟨rfl, h0⟩ | ⟨g, cap, cur, rfl, hbg, hg, hnc, hcm, hcs, htake⟩
  · have hL : L = [] := List.eq_nil_of_length_eq_zero h0
    subst hL
    have hr := Go.Lib.run_append_grow_zeros (P := P) w t tn ty e i (.int .i64 0) .i64 kn ht htn hi hz none 0 0 [] (by simp [Builtin.firstCells]) 12 (by decide) (by omega) (by decide) (by decide) (by omega) (by rw [hby]; decide)
    obtain ⟨g1, g2⟩ := grown 0 (Value.ownBlock (.slice none 0 0))
    exact ⟨_, _, hr, g1, g2⟩
  · by_cases hroom : L.length + 12 ≤ cap
    · have hst := run_storeCells_at P g L.length e zeros 0 cur w hg (by rw [hzl]; omega) (one_ints _)
      simp only [Nat.add_zero] at hst
      have hzc : Builtin.zeroCells (Value.int .i64 0).cells 12 = zeros.toArray := zeroCells_zeros
      have hw12 : IntKind.i64.wrap 12 = 12 := by decide
      refine ⟨.slice (some ⟨g, 0, none⟩) (L.length + 12) cap, w.setRow g (cur.toList.take L.length ++ zeros ++ cur.toList.drop (L.length + zeros.length)).toArray, ?_, ?_, ⟨rfl, rfl, rfl, by simp, fun k _ hk => setRow_other w g k _ (fun e => hk (by simp [Value.ownBlock, e]))⟩⟩
      · simp [Builtin.append_, run_underlying ht, run_underlying htn, sizeOf, typeInfo, zeroValue, hi, hz, hsize, hby, asInt, asIntOf, hw12, hroom, Addr.add_lit, hzc, hst]
      · unfold OW
        rw [hlen]
        refine ⟨by rw [hlen, Nat.mul_one], .inr ⟨g, cap, _, rfl, hbg, setRow_heap w g cur _ e _ hg, hroom, hcm, ?_, ?_⟩⟩
        · simp only [List.size_toArray, List.length_append, List.length_take, List.length_drop, Array.length_toList, hzl]
          omega
        · rw [Nat.mul_one] at htake ⊢
          rw [htake, ← hlen]
          exact List.take_left
    · have holds : ∀ j u, L[j]? = some u → w.cell? ((⟨g, 0, none⟩ : Addr).add j) = some u := hw.cells (g := g) rfl
      have hf := run_firstCells_some (P := P) w.drew i.size L.length ⟨g, 0, none⟩ L.length cap L (by rw [hsize, Nat.mul_one]) (fun j u hj => holds j u hj)
      have hr := Go.Lib.run_append_grow_zeros (P := P) w t tn ty e i (.int .i64 0) .i64 kn ht htn hi hz (some ⟨g, 0, none⟩) L.length cap L hf 12 (by decide) (by omega) (by omega) (by omega) (by omega) (by rw [hby]; exact growslice_fits (by omega) (by omega))
      obtain ⟨g1, g2⟩ := grown cap (Value.ownBlock (.slice (some ⟨g, 0, none⟩) L.length cap))
      exact ⟨_, _, hr, g1, g2⟩
theorem wpList_append_zeros {P : Program} (w : World) {ops : Array Oper} {rest : List Oper} {o : Oper} {a : Act} {Q : Exit → Act → World → Prop} (hgd : o.guard = none) (s x : Operand) (t tn : TypeId)
    (ho : o.op = .call { callee := .builtin .append, args := #[s, x], argTypes := #[t, tn] })
    (base : Nat) (e : TypeId) (i : TypeInfo) (kn : IntKind) (ht : P.underlying t = some (.slice e)) (htn : P.underlying tn = some (.int kn)) (hi : P.info? e = some i) (hz : i.zero = some (.int .i64 0))
    (hsize : i.size = 1) (hby : i.bytes = 8) (v : Value) (L : List Value) (hs : a.eval s = v) (hx : a.eval x = .int .i64 12) (hown : OW w base e v L) (hl : L.length ≤ 1000) (hbase : base ≤ w.heap.size)
    (h : ∀ v' w', OW w' base e v' (L ++ zeros) → Below base w w' → wpList P ops Q rest (a.put o.dst v') w') : wpList P ops Q (o :: rest) a w := by
  obtain ⟨v', w', hrun, h1, h2⟩ := run_append_zeros (P := P) w base t tn o.type e i kn ht htn hi hz hsize hby v L hown hl hbase
  refine wpList_plain hgd fun K hK' => ?_
  unfold Oper.wp
  simp [execOp, ho, resolve, invoke, builtin, hs, hx, hrun, Result.andThen]
  exact hK' _ _ (h v' w' h1 ((Below.refl base w).grown h2 hbase fun k hk => (World.ownsRow.lt hown k hk).1))
def leafy (L : List Int) : Prop := ∀ n ∈ L, -1 ≤ n ∧ n ≤ 991
theorem leafy_snoc {L : List Int} {x : Int} (h : leafy L) (h0 : -1 ≤ x) (h1 : x ≤ 991) : leafy (L ++ [x]) := fun n hn => by
  rcases List.mem_append.1 hn with h2 | h2
  · exact h n h2
  · rw [List.mem_singleton.1 h2]; exact ⟨h0, h1⟩
theorem leafy_set {L : List Int} {x : Int} {k : Nat} (h : leafy L) (h0 : -1 ≤ x) (h1 : x ≤ 991) : leafy (L.set k x) := fun n hn => by
  rcases List.mem_or_eq_of_mem_set hn with h2 | h2
  · exact h n h2
  · rw [h2]; exact ⟨h0, h1⟩
theorem leafy_zeros {L : List Int} (h : leafy L) (k : Nat) : leafy (L ++ List.replicate k 0) := fun n hn => by
  rcases List.mem_append.1 hn with h2 | h2
  · exact h n h2
  · rw [List.eq_of_mem_replicate h2]; omega
def LeavesQ (base : Nat) (v : Value) (w' : World) : Prop := ∃ L : List Int, L.length ≤ 28 ∧ leafy L ∧ OW w' base 3 v (L.map (Value.int .i64))
set_option maxRecDepth 100000 in
set_option maxHeartbeats 4000000 in
theorem l91Leaves_any (g p : Nat) (w : World) (h : Rdr w g p) (hp : p ≤ 90000) : Calls Try.prog 34 #[.pointer (some ⟨g, 0, none⟩)] w (DrawPost g p 60 (LeavesQ w.heap.size) w) := by
  have hgw := h.lt
  obtain ⟨j0, ji, jz0, jz1, jz2⟩ := info_parts infoInt
  go_enter Try.func34, Try.ntmps34
  go_wp2_with fail
  (with_reducible refine (pick_any g p 17 _ (h.alloc _) (by omega) (by omega) (by omega)).mono ?_)
  rintro _ w1 ⟨x, rfl, x0, x1, h1, k1⟩
  have o1 := own_grown (own_empty (w := w) (e := 3) (Nat.le_refl w.heap.size)) k1 hgw
  have K1 := grown_trans (World.grownBy_alloc w (.cells #[] 3) (some g)) k1
  go_wp2_with fail
  go_loopw [3, 5] (fun s i wr => ∃ (k : Nat) (L : List Int) (q : Nat), (k : Int) ≤ x ∧ i = .int .i64 k ∧ L.length = k ∧ Hid (leafy L) ∧ OW wr w.heap.size 3 s (L.map (Value.int .i64)) ∧ q ≤ p + 1 + 2 * k ∧ Rdr wr g q ∧ w.grownBy wr (some g)) (fun _ i _ => (x - intOf i).toNat)
  case atStart => exact ⟨0, [], _, by omega, rfl, rfl, (fun n hn => by cases hn), o1, by omega, h1, K1⟩
  case round =>
    obtain ⟨k, L, q, hk, rfl, hb, hlf, hown, hq, hr, hg⟩ := hrel
    have HB := hid' hb
    clear hb
    by_cases hlt : (k : Int) < x
    · go_wp2_with fail
      (with_reducible refine (pick_any g q 99 _ hr (by omega) (by omega) (by omega)).mono ?_)
      rintro _ w2 ⟨y, rfl, y0, y1, h2, k2⟩
      have hown2 := own_grown hown k2 hgw
      go_wp2_with fail
      (with_reducible refine (pick_any g (q + 1) 10 _ h2 (by omega) (by omega) (by omega)).mono ?_)
      rintro _ w3 ⟨z, rfl, z0, z1, h3, k3⟩
      have hown3 := own_grown hown2 k3 hgw
      have hg3 := grown_trans (grown_trans hg k2) k3
      have hlen3 : (L.map (Value.int .i64)).length + 1 ≤ 33554432 := by rw [List.length_map, HB.out]; omega
      go_wp2_with (at_builtin; refine wpList_push _ rfl _ _ 33 rfl w.heap.size 3 j0 (.int .i64 0) 8 Try.underlying33 ji jz0 jz1 jz2 rfl _ _ rfl hown3 _ rfl rfl (by omega) (by decide) hg3.size ?_; intro v' w4 hown4 hbel4)
      go_roundw
      case rel => exact ⟨k + 1, L ++ [10 * y + z], q + 2, by omega, by go_num, by rw [List.length_append, HB.out]; rfl, leafy_snoc hlf.out (by omega) (by omega), by rw [List.map_append]; exact hown4, by omega, h3.below hbel4 hgw, grown_belowC hg3 hbel4⟩
      case measure => simp [intOf]; omega
    · have hL : (L.length : Int) = x := by rw [HB.out]; omega
      go_wp2_with fail
      (with_reducible refine (pick_any g q 24 _ hr (by omega) (by omega) (by omega)).mono ?_)
      rintro _ w2 ⟨y, rfl, y0, y1, h2, k2⟩
      have hown2 := own_grown hown k2 hgw
      have hg2 := grown_trans hg k2
      clear hown hg k2
      rcases (show y = 0 ∨ y = 1 ∨ 2 ≤ y by omega) with rfl | rfl | hy
      · by_cases hx0 : 0 < x
        · go_wp2_with fail
          (with_reducible refine (pick_any g (q + 1) x _ h2 (by omega) (by omega) (by omega)).mono ?_)
          rintro _ w3 ⟨z, rfl, z0, z1, h3, k3⟩
          have hown3 := own_grown hown2 k3 hgw
          have hg3 := grown_trans hg2 k3
          clear hown2 hg2 k3
          go_wp2_with fail
          (with_reducible refine (l91Digest_any g (q + 2) _ h3 (by omega)).mono ?_)
          rintro _ w4 ⟨_, q4, rfl, hq4, h4, k4, d, rfl, d0, d1⟩
          have hown4 := own_grown hown3 k4 hgw
          have hg4 := grown_trans hg3 k4
          clear hown3 hg3 k4
          obtain ⟨m, rfl⟩ : ∃ m : Nat, z = (m : Int) := ⟨z.toNat, by omega⟩
          have hml : m < L.length := by omega
          obtain ⟨c, hc⟩ : ∃ c, L[m]? = some c := ⟨L[m], List.getElem?_eq_getElem hml⟩
          obtain ⟨b, cb, rfl, l1, l2, lb, l3, l4⟩ := own_atC (con := Value.int .i64) hown4 hc
          obtain ⟨l5, l6⟩ := l4 d
          have HC := hid' hc
          have HL5 := hid' l5
          have HL6 := hid' l6
          clear hc l4 l5 l6 hown4
          go_wp2_with fail
          go_ret
          exact ⟨_, q4, rfl, by omega, h4.below HL6.out hgw, grown_belowC hg4 HL6.out, _, by rw [List.length_set]; omega, leafy_set hlf.out d0 d1, HL5.out⟩
        · go_wp2_with fail
          go_ret
          exact ⟨_, q + 1, rfl, by omega, h2, hg2, L, by omega, hlf.out, hown2⟩
      · have hlen2 : (L.map (Value.int .i64)).length ≤ 1000 := by rw [List.length_map, HB.out]; omega
        have hsz := hg2.size
        go_wp2_with (at_builtin; refine wpList_append_zeros _ rfl _ _ 33 3 rfl w.heap.size 3 j0 .i64 Try.underlying33 Try.underlying3 ji jz0 jz1 jz2 _ _ rfl rfl hown2 hlen2 hsz ?_; intro v' w4 hown4 hbel4)
        go_ret
        exact ⟨_, q + 1, rfl, by omega, h2.below hbel4 hgw, grown_belowC hg2 hbel4, L ++ List.replicate 12 0, by rw [List.length_append, HB.out, List.length_replicate]; omega, leafy_zeros hlf.out 12, by rw [List.map_append]; exact hown4⟩
      · have hy0 : (y == (0 : Int)) = false := beq_eq_false_iff_ne.2 (by omega)
        have hy1 : (y == (1 : Int)) = false := beq_eq_false_iff_ne.2 (by omega)
        go_wp2_with fail
        go_ret
        exact ⟨_, q + 1, rfl, by omega, h2, hg2, L, by omega, hlf.out, hown2⟩
end Go.Proofs.Ytcocknfdafmfnaa
