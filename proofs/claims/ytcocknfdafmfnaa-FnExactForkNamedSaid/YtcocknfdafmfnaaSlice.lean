/- The walks of the laws' own helpers on slices: copies, comparisons, marks. -/
import Derived.Test.YtcocknfdafmfnaaNum
import Derived.LoopTactic
import Derived.Carry
namespace Go.Proofs.Ytcocknfdafmfnaa
set_option linter.unusedVariables false
open Go.RowKit

theorem grown_tr {a b c : World} {row : Option Nat} (h : a.grownBy b row) (k : b.grownBy c row) : a.grownBy c row :=
  ⟨k.os.trans h.os, k.tape.trans h.tape, k.output.trans h.output, Nat.le_trans h.size k.size, fun i hi hne => (k.block i (Nat.lt_of_lt_of_le hi h.size) hne).trans (h.block i hi hne)⟩
theorem own_same {w w' : World} {base n size : Nat} {e : TypeId} {v : Value} {xs : List Value} (h : w.ownsRow base e size v n xs) (hk : ∀ k, v.ownBlock = some k → w'.heap[k]? = w.heap[k]?) : w'.ownsRow base e size v n xs := by
  obtain ⟨h1, h2⟩ := h
  refine ⟨h1, ?_⟩
  rcases h2 with h2 | ⟨g, cap, cur, hv, hb, hh, r⟩
  · exact .inl h2
  · exact .inr ⟨g, cap, cur, hv, hb, (hk g (by rw [hv]; rfl)).trans hh, r⟩

/-- A row that the call itself has made, in a block from lo up to hi. -/
def Row (w : World) (lo hi : Nat) (e : TypeId) (v : Value) (L : List Value) : Prop := OW w lo e v L ∧ ∀ k, v.ownBlock = some k → k < hi
/-- What a function leaves that hands back a new row: nothing that was there has turned. -/
def NewRow (w0 : World) (e : TypeId) (L : List Value) (en : Ending) (w' : World) : Prop := ∃ v', en = .returned v' ∧ Row w' w0.heap.size w'.heap.size e v' L ∧ Below w0.heap.size w0 w'

section
variable {w w' : World} {lo hi B : Nat} {e : TypeId} {v : Value} {L : List Value}
theorem Row.next (h : Row w lo hi e v L) (hb : Below B w w') (hB : hi ≤ B) : Row w' lo hi e v L :=
  ⟨own_same h.1 fun k hk => hb.block k (Nat.lt_of_lt_of_le (h.2 k hk) hB), h.2⟩
theorem Row.grown (h : Row w lo hi e v L) {row : Option Nat} (hg : w.grownBy w' row) (hr : ∀ k, row = some k → k < lo ∨ hi ≤ k) : Row w' lo hi e v L := by
  refine ⟨own_same h.1 fun k hk => ?_, h.2⟩
  obtain ⟨hl, hlt⟩ := World.ownsRow.lt h.1 k hk
  refine hg.block k hlt fun e => ?_
  have := hr k e.symm
  have := h.2 k hk
  omega
theorem Row.of (h : OW w lo e v L) : Row w lo w.heap.size e v L := ⟨h, fun k hk => (World.ownsRow.lt h k hk).2⟩
theorem Row.rv (h : Row w lo hi e v L) : RV w hi v L := by
  obtain ⟨A, cap, hv, hl, hm, hc⟩ := RV.of_own h.1
  refine ⟨A, cap, hv, hl, hm, fun h0 => ?_⟩
  obtain ⟨b, off, hA, hb, hcell⟩ := hc h0
  exact ⟨b, off, hA, h.2 b (by rw [hv, hA]; rfl), hcell⟩
theorem Row.wide {lo' hi' : Nat} (h : Row w lo hi e v L) (hl : lo' ≤ lo) (hh : hi ≤ hi') : Row w lo' hi' e v L := by
  refine ⟨?_, fun k hk => Nat.lt_of_lt_of_le (h.2 k hk) hh⟩
  obtain ⟨⟨h1, h2⟩, _⟩ := h
  refine ⟨h1, ?_⟩
  rcases h2 with h2 | ⟨g, cap, cur, hv, hb, r⟩
  · exact .inl h2
  · exact .inr ⟨g, cap, cur, hv, by omega, r⟩
/-- The one row that is written lies from lo up to hi: below lo nothing has turned. -/
theorem below_row (hr : Row w lo hi e v L) (hg : w.grownBy w' v.ownBlock) (hl : lo ≤ w.heap.size) : Below lo w w' :=
  ⟨hg.os, hg.tape, hg.output, hg.size, fun k hk => hg.block k (by omega) fun e => by have := World.ownsRow.lt hr.1 k e.symm; omega⟩
end

theorem setmake {α : Type} (V : List α) (z u : α) (n k : Nat) (hk : V[k]? = some u) (hn : V.length = n) :
    (V.take k ++ List.replicate (n - k) z).set k u = V.take (k + 1) ++ List.replicate (n - (k + 1)) z := by
  have hlt : k < V.length := by
    rcases Nat.lt_or_ge k V.length with h | h
    · exact h
    · rw [List.getElem?_eq_none h] at hk; cases hk
  rw [List.set_append_right _ _ (by simp; omega), List.length_take, Nat.min_eq_left (by omega), Nat.sub_self]
  rw [show n - k = (n - (k + 1)) + 1 by omega, List.replicate_succ, List.set_cons_zero, List.take_succ_eq_append_getElem hlt]
  rw [List.getElem?_eq_getElem hlt] at hk
  simp only [Option.some.injEq] at hk
  rw [hk, List.append_assoc]; rfl
theorem getmake {α : Type} (V : List α) (z : α) (n k : Nat) (hk : k < n) (hn : V.length = n) : (V.take k ++ List.replicate (n - k) z)[k]? = some z := by
  rw [List.getElem?_append_right (by simp; omega), List.length_take, Nat.min_eq_left (by omega), Nat.sub_self, List.getElem?_replicate, if_pos (by omega)]
theorem setmark {α : Type} (V : List α) (f : Nat → α) (k : Nat) (hk : k < V.length) :
    ((List.range k).map f ++ V.drop k).set k (f k) = (List.range (k + 1)).map f ++ V.drop (k + 1) := by
  rw [List.set_append_right _ _ (by simp), List.length_map, List.length_range, Nat.sub_self, List.drop_eq_getElem_cons hk, List.set_cons_zero, List.range_succ, List.map_append, List.append_assoc]; rfl
theorem getmark {α : Type} (V : List α) (f : Nat → α) (k : Nat) (hk : k < V.length) : ((List.range k).map f ++ V.drop k)[k]? = some V[k] := by
  rw [List.getElem?_append_right (by simp), List.length_map, List.length_range, Nat.sub_self, List.getElem?_drop, Nat.add_zero, List.getElem?_eq_getElem hk]

def eqI (L M : List Int) : Bool := decide (L = M)
theorem eqI_self (L : List Int) : eqI L L = true := by simp [eqI]
theorem eqI_iff {L M : List Int} : eqI L M = true ↔ L = M := by simp [eqI]
theorem eqI_len {L M : List Int} (h : L.length ≠ M.length) : eqI L M = false := by
  unfold eqI; rw [decide_eq_false_iff_not]; intro e; exact h (by rw [e])
theorem eqI_at {L M : List Int} {k : Nat} {x y : Int} (hx : L[k]? = some x) (hy : M[k]? = some y) (h : x ≠ y) : eqI L M = false := by
  unfold eqI; rw [decide_eq_false_iff_not]; intro e; rw [e, hy] at hx; exact h (by simpa using hx.symm)

set_option maxHeartbeats 1000000 in
theorem eqIntS_any (v v' : Value) (L M : List Int) (B : Nat) (w : World) (b : Bool) (h : RV w B v (L.map (Value.int .i64))) (h' : RV w B v' (M.map (Value.int .i64))) (hB : B ≤ w.heap.size) (hn : L.length ≤ 33554432) (hb : eqI L M = b) :
    Calls Try.prog 15 #[v, v'] w fun e w' => e = .returned (.bool b) ∧ Below w.heap.size w w' := by
  obtain ⟨A, cap, rfl, hl, hm, hc⟩ := h
  obtain ⟨A', cap', rfl, hl', hm', hc'⟩ := h'
  rw [List.length_map] at hl hl' hc hc'
  rw [List.length_map, List.length_map]
  subst hb
  by_cases hlen : L.length = M.length
  · have HL := hid' hlen
    have hlen1 : ((L.length : Int) != (M.length : Int)) = false := by rw [hlen]; simp
    have hlen2 : ((L.length : Int) == (M.length : Int)) = true := by rw [hlen]; simp
    clear hlen
    go_enter Try.func15, Try.ntmps15
    go_wp2
    go_loopw [5] (fun i wr => ∃ k : Nat, k ≤ L.length ∧ i = .int .i64 k ∧ L.take k = M.take k ∧ Below w.heap.size w wr) (fun i _ => L.length - (intOf i).toNat)
    case atStart => exact ⟨0, Nat.zero_le _, rfl, rfl, Below.refl _ _⟩
    case round =>
      obtain ⟨k, hk, rfl, hpre, hbel⟩ := hrel
      have HP := hid' hpre
      clear hpre
      by_cases hlt : k < L.length
      · obtain ⟨b, off, rfl, hbB, hcell⟩ := hc (by omega)
        obtain ⟨b', off', rfl, hbB', hcell'⟩ := hc' (by have := HL.out; omega)
        have hlt' : k < M.length := by have := HL.out; omega
        obtain ⟨x, hx⟩ : ∃ x, L[k]? = some x := ⟨L[k], List.getElem?_eq_getElem hlt⟩
        obtain ⟨y, hy⟩ : ∃ y, M[k]? = some y := ⟨M[k], List.getElem?_eq_getElem hlt'⟩
        have hcx : wr.cell? ⟨b, off + k, none⟩ = some (.int .i64 x) := (hbel.cell (p := ⟨b, off + k, none⟩) (by show b < w.heap.size; omega)).trans (hcell k _ (by rw [List.getElem?_map, hx]; rfl))
        have hcy : wr.cell? ⟨b', off' + k, none⟩ = some (.int .i64 y) := (hbel.cell (p := ⟨b', off' + k, none⟩) (by show b' < w.heap.size; omega)).trans (hcell' k _ (by rw [List.getElem?_map, hy]; rfl))
        have HX := hid' hx
        have HY := hid' hy
        clear hcell hcell' hx hy hc hc'
        by_cases hxy : x = y
        · have HE : Hid (L.take (k + 1) = M.take (k + 1)) := by
            unfold Hid
            have e1 := HX.out; have e2 := HY.out
            rw [List.getElem?_eq_getElem hlt] at e1
            rw [List.getElem?_eq_getElem hlt'] at e2
            rw [List.take_succ_eq_append_getElem hlt, List.take_succ_eq_append_getElem hlt', HP.out]
            simp only [Option.some.injEq] at e1 e2
            rw [e1, e2, hxy]
          subst hxy
          have q1 : (x != x) = false := by simp
          go_wp2
          go_quiet (fail)
          go_wp2
          go_roundw
          case rel => exact ⟨k + 1, by omega, by go_num, HE.out, below_drewN hbel _⟩
          case measure => simp [intOf]; omega
        · have H := hid' (eqI_at HX.out HY.out hxy)
          have q1 : (x != y) = true := by simp [hxy]
          have q2 : (x == y) = false := by simp [hxy]
          clear hxy
          go_wp2
          go_quiet (fail)
          go_wp2
          go_ret
          exact ⟨retB H.out.symm, below_drewN hbel _⟩
      · have H : Hid (eqI L M = true) := by
          have e := HP.out
          rw [List.take_of_length_le (by omega), List.take_of_length_le (by have := HL.out; omega)] at e
          exact eqI_iff.2 e
        clear hc hc'
        go_wp2
        go_ret
        exact ⟨retB H.out.symm, hbel⟩
  · have H := hid' (eqI_len hlen)
    have hlen1 : ((L.length : Int) != (M.length : Int)) = true := by simp; omega
    have hlen2 : ((L.length : Int) == (M.length : Int)) = false := by simp; omega
    clear hlen hc hc'
    go_enter Try.func15, Try.ntmps15
    go_wp2
    go_ret
    exact ⟨retB H.out.symm, Below.refl _ _⟩
set_option maxHeartbeats 1000000 in
theorem sameInts_any (v v' : Value) (L M : List Int) (B : Nat) (w : World) (b : Bool) (h : RV w B v (L.map (Value.int .i64))) (h' : RV w B v' (M.map (Value.int .i64))) (hB : B ≤ w.heap.size) (hn : L.length ≤ 33554432) (hb : eqI L M = b) :
    Calls Try.prog 20 #[v, v'] w fun e w' => e = .returned (.bool b) ∧ Below w.heap.size w w' := by
  obtain ⟨A, cap, rfl, hl, hm, hc⟩ := h
  obtain ⟨A', cap', rfl, hl', hm', hc'⟩ := h'
  rw [List.length_map] at hl hl' hc hc'
  rw [List.length_map, List.length_map]
  subst hb
  by_cases hlen : L.length = M.length
  · have HL := hid' hlen
    have hlen1 : ((L.length : Int) != (M.length : Int)) = false := by rw [hlen]; simp
    have hlen2 : ((L.length : Int) == (M.length : Int)) = true := by rw [hlen]; simp
    clear hlen
    go_enter Try.func20, Try.ntmps20
    go_wp2
    go_loopw [5] (fun i wr => ∃ k : Nat, k ≤ L.length ∧ i = .int .i64 k ∧ L.take k = M.take k ∧ Below w.heap.size w wr) (fun i _ => L.length - (intOf i).toNat)
    case atStart => exact ⟨0, Nat.zero_le _, rfl, rfl, Below.refl _ _⟩
    case round =>
      obtain ⟨k, hk, rfl, hpre, hbel⟩ := hrel
      have HP := hid' hpre
      clear hpre
      by_cases hlt : k < L.length
      · obtain ⟨b, off, rfl, hbB, hcell⟩ := hc (by omega)
        obtain ⟨b', off', rfl, hbB', hcell'⟩ := hc' (by have := HL.out; omega)
        have hlt' : k < M.length := by have := HL.out; omega
        obtain ⟨x, hx⟩ : ∃ x, L[k]? = some x := ⟨L[k], List.getElem?_eq_getElem hlt⟩
        obtain ⟨y, hy⟩ : ∃ y, M[k]? = some y := ⟨M[k], List.getElem?_eq_getElem hlt'⟩
        have hcx : wr.cell? ⟨b, off + k, none⟩ = some (.int .i64 x) := (hbel.cell (p := ⟨b, off + k, none⟩) (by show b < w.heap.size; omega)).trans (hcell k _ (by rw [List.getElem?_map, hx]; rfl))
        have hcy : wr.cell? ⟨b', off' + k, none⟩ = some (.int .i64 y) := (hbel.cell (p := ⟨b', off' + k, none⟩) (by show b' < w.heap.size; omega)).trans (hcell' k _ (by rw [List.getElem?_map, hy]; rfl))
        have HX := hid' hx
        have HY := hid' hy
        clear hcell hcell' hx hy hc hc'
        by_cases hxy : x = y
        · have HE : Hid (L.take (k + 1) = M.take (k + 1)) := by
            unfold Hid
            have e1 := HX.out; have e2 := HY.out
            rw [List.getElem?_eq_getElem hlt] at e1
            rw [List.getElem?_eq_getElem hlt'] at e2
            rw [List.take_succ_eq_append_getElem hlt, List.take_succ_eq_append_getElem hlt', HP.out]
            simp only [Option.some.injEq] at e1 e2
            rw [e1, e2, hxy]
          subst hxy
          have q1 : (x != x) = false := by simp
          go_wp2
          go_quiet (fail)
          go_wp2
          go_roundw
          case rel => exact ⟨k + 1, by omega, by go_num, HE.out, below_drewN hbel _⟩
          case measure => simp [intOf]; omega
        · have H := hid' (eqI_at HX.out HY.out hxy)
          have q1 : (x != y) = true := by simp [hxy]
          have q2 : (x == y) = false := by simp [hxy]
          clear hxy
          go_wp2
          go_quiet (fail)
          go_wp2
          go_ret
          exact ⟨retB H.out.symm, below_drewN hbel _⟩
      · have H : Hid (eqI L M = true) := by
          have e := HP.out
          rw [List.take_of_length_le (by omega), List.take_of_length_le (by have := HL.out; omega)] at e
          exact eqI_iff.2 e
        clear hc hc'
        go_wp2
        go_ret
        exact ⟨retB H.out.symm, hbel⟩
  · have H := hid' (eqI_len hlen)
    have hlen1 : ((L.length : Int) != (M.length : Int)) = true := by simp; omega
    have hlen2 : ((L.length : Int) == (M.length : Int)) = false := by simp; omega
    clear hlen hc hc'
    go_enter Try.func20, Try.ntmps20
    go_wp2
    go_ret
    exact ⟨retB H.out.symm, Below.refl _ _⟩
def marksIntS (q : Int) (n : Nat) : List Value := (List.range n).map fun (j : Nat) => .int .i64 (q + (j : Int))
theorem marksIntS_len (q : Int) (n : Nat) : (marksIntS q n).length = n := by simp [marksIntS]
theorem marksIntS_get (q : Int) (n k : Nat) (hk : k < n) : (marksIntS q n)[k]? = some (.int .i64 (q + (k : Int))) := by
  unfold marksIntS; rw [List.getElem?_map, List.getElem?_range hk]; rfl
/-- What a marking leaves. -/
def MarkedIntS (w : World) (lo hi : Nat) (v : Value) (q : Int) (n : Nat) (e : Ending) (w' : World) : Prop :=
  e = .returned (.int .i64 (q + (n : Int))) ∧ Row w' lo hi 3 v (marksIntS q n) ∧ w.grownBy w' v.ownBlock
set_option maxHeartbeats 1000000 in
theorem markIntS_any (v : Value) (L : List Int) (lo hi : Nat) (q : Int) (w : World) (h : Row w lo hi 3 v (L.map (Value.int .i64))) (q0 : 0 ≤ q) (q1 : q ≤ 1048576000) (hn : L.length ≤ 33554432) :
    Calls Try.prog 18 #[v, .int .i64 q] w (MarkedIntS w lo hi v q L.length) := by
  obtain ⟨hown, hhi⟩ := h
  have hform : (v = .slice none 0 0 ∧ L = []) ∨ ∃ g cap, v = .slice (some ⟨g, 0, none⟩) L.length cap ∧ L.length ≤ cap := by
    rcases hown.2 with ⟨hv, h0⟩ | ⟨g, cap, cur, hv, _, _, hnc, _⟩
    · exact .inl ⟨hv, by rw [List.length_map] at h0; exact List.eq_nil_of_length_eq_zero h0⟩
    · rw [List.length_map] at hv hnc; exact .inr ⟨g, cap, hv, hnc⟩
  rcases hform with ⟨rfl, rfl⟩ | ⟨g, cap, rfl, hcap⟩
  · have F : MarkedIntS w lo hi (.slice none 0 0) q ([] : List Int).length (.returned (.int .i64 q)) w := ⟨by simp, ⟨hown, hhi⟩, World.grownBy.refl _ _⟩
    have FF := hid' F
    clear F hown hhi
    go_enter Try.func18, Try.ntmps18
    go_wp2
    refine wp_loop_rounds 1 ?_
    rw [rounds_succ]
    go_wp2
    go_ret
    exact FF.out
  · have hown1 : w.ownsRow lo 3 1 (.slice (some ⟨g, 0, none⟩) L.length cap) L.length (L.map (Value.int .i64)) := by
      have := hown; unfold OW at this; rw [List.length_map] at this; exact this
    have hhi' := hhi g rfl
    clear hown
    go_enter Try.func18, Try.ntmps18
    go_wp2
    go_loopw [1, 5] (fun s i wr => ∃ k : Nat, k ≤ L.length ∧ i = .int .i64 k ∧ s = .int .i64 (q + (k : Int)) ∧ wr.ownsRow lo 3 1 (.slice (some ⟨g, 0, none⟩) L.length cap) L.length ((List.range k).map (fun (j : Nat) => .int .i64 (q + (j : Int))) ++ (L.map (Value.int .i64)).drop k) ∧ w.grownBy wr (some g)) (fun _ i _ => L.length - (intOf i).toNat)
    case atStart => exact ⟨0, Nat.zero_le _, rfl, by go_num, hown1, World.grownBy.refl _ _⟩
    case round =>
      obtain ⟨k, hk, rfl, rfl, hown, hg⟩ := hrel
      by_cases hlt : k < L.length
      · have hlm : k < (L.map (Value.int .i64)).length := by simpa using hlt
        have ho : wr.cell? ⟨g, k, none⟩ = some ((L.map (Value.int .i64))[k]) := (hown.cellAt k (by omega)).trans (getmark _ (fun (j : Nat) => .int .i64 (q + (j : Int))) _ hlm)
        rw [List.getElem_map] at ho
        obtain ⟨x, hx⟩ : ∃ x, L[k] = x := ⟨_, rfl⟩
        rw [hx] at ho
        have hf : wr.frozen? ⟨g, k, none⟩ = false := hown.frozenAt k
        have HS := hid' (hown.stored k (.int .i64 (q + (k : Int)))).1
        rw [setmark _ (fun (j : Nat) => .int .i64 (q + (j : Int))) _ hlm] at HS
        have HG := hid' (grown_tr hg (hown.stored k (.int .i64 (q + (k : Int)))).2)
        clear hown hg hlm hx hown1
        go_wp2
        go_roundw
        case rel => exact ⟨k + 1, by omega, by go_num, by go_num, HS.out, HG.out⟩
        case measure => simp [intOf]; omega
      · have hkl : k = L.length := by omega
        have hfin : (List.range k).map (fun (j : Nat) => .int .i64 (q + (j : Int))) ++ (L.map (Value.int .i64)).drop k = marksIntS q L.length := by
          rw [hkl, List.drop_of_length_le (by simp), List.append_nil]; rfl
        rw [hfin] at hown
        clear hfin
        subst hkl
        clear hown1
        have FF := hid' (show MarkedIntS w lo hi (.slice (some ⟨g, 0, none⟩) L.length cap) q L.length (.returned (.int .i64 (q + (L.length : Int)))) wr from ⟨rfl, ⟨OW.len hown, hhi⟩, hg⟩)
        clear hown hg hhi
        go_wp2
        go_ret
        exact FF.out
set_option maxHeartbeats 1000000 in
theorem heldIntS_any (v : Value) (n : Nat) (B : Nat) (q : Int) (w : World) (h : RV w B v (marksIntS q n)) (q0 : 0 ≤ q) (q1 : q ≤ 1048576000) (hn : n ≤ 33554432) :
    Calls Try.prog 19 #[v, .int .i64 q] w fun e w' => e = .returned (.int .i64 (q + (n : Int))) ∧ w = w' := by
  obtain ⟨A, cap, rfl, hl, hm, hc⟩ := h
  rw [marksIntS_len] at hl hc ⊢
  go_enter Try.func19, Try.ntmps19
  go_wp2
  go_loop [1, 5] (fun s i => ∃ k : Nat, k ≤ n ∧ i = .int .i64 k ∧ s = .int .i64 (q + (k : Int))) (fun _ i => n - (intOf i).toNat)
  case atStart => exact ⟨0, Nat.zero_le _, rfl, by go_num⟩
  case round =>
    obtain ⟨k, hk, rfl, rfl⟩ := hrel
    by_cases hlt : k < n
    · obtain ⟨b, off, rfl, hbB, hcell⟩ := hc (by omega)
      have hcx := hcell k _ (marksIntS_get q n k hlt)
      clear hcell hc
      have qq : ((q + (k : Int)) != (q + (k : Int))) = false := by simp
      go_wp2
      go_round
      case rel => exact ⟨k + 1, by omega, by go_num, by go_num⟩
      case measure => simp [intOf]; omega
    · have hkl : k = n := by omega
      subst hkl
      clear hc
      go_wp2
      go_ret
      exact ⟨rfl, rfl⟩
def eqB (L M : List Bool) : Bool := decide (L = M)
theorem eqB_self (L : List Bool) : eqB L L = true := by simp [eqB]
theorem eqB_iff {L M : List Bool} : eqB L M = true ↔ L = M := by simp [eqB]
theorem eqB_len {L M : List Bool} (h : L.length ≠ M.length) : eqB L M = false := by
  unfold eqB; rw [decide_eq_false_iff_not]; intro e; exact h (by rw [e])
theorem eqB_at {L M : List Bool} {k : Nat} {x y : Bool} (hx : L[k]? = some x) (hy : M[k]? = some y) (h : x ≠ y) : eqB L M = false := by
  unfold eqB; rw [decide_eq_false_iff_not]; intro e; rw [e, hy] at hx; exact h (by simpa using hx.symm)

def marksBoolS (q : Int) (n : Nat) : List Value := (List.range n).map fun (j : Nat) => .bool ((q + (j : Int)) % 3 == 0)
theorem marksBoolS_len (q : Int) (n : Nat) : (marksBoolS q n).length = n := by simp [marksBoolS]
theorem marksBoolS_get (q : Int) (n k : Nat) (hk : k < n) : (marksBoolS q n)[k]? = some (.bool ((q + (k : Int)) % 3 == 0)) := by
  unfold marksBoolS; rw [List.getElem?_map, List.getElem?_range hk]; rfl
end Go.Proofs.Ytcocknfdafmfnaa
