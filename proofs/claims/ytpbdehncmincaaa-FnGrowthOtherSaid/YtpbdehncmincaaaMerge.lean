/- The walks of the reference's merging of roots. -/
import Derived.Test.YtpbdehncmincaaaGrowth
import Derived.Maps.AppendAt
namespace Go.Proofs.Ytpbdehncmincaaa
set_option linter.unusedVariables false
open Go.RowKit

theorem grown_transM {a b c : World} {row : Option Nat} (h : a.grownBy b row) (k : b.grownBy c row) : a.grownBy c row :=
  ⟨k.os.trans h.os, k.tape.trans h.tape, k.output.trans h.output, Nat.le_trans h.size k.size, fun i hi hne => (k.block i (Nat.lt_of_lt_of_le hi h.size) hne).trans (h.block i hi hne)⟩
/-- An append of one element, and where the new slice lies. -/
theorem wpList_push_at {P : Program} (w : World) {ops : Array Oper} {rest : List Oper} {o : Oper} {a : Act} {Q : Exit → Act → World → Prop} (hgd : o.guard = none) (s x : Operand) (t : TypeId)
    (ho : o.op = .call { callee := .builtin .append, args := #[s, x], argTypes := #[t, t] })
    (base : Nat) (e : TypeId) (i : TypeInfo) (z : Value) (bytes : Nat) (ht : P.underlying t = some (.slice e)) (hi : P.info? e = some i) (hz : i.zero = some z)
    (hsize : i.size = 1) (hby : i.bytes = bytes) (hzs : z.cells.size = 1)
    (v : Value) (L : List Value) (hs : a.eval s = v) (hown : OW w base e v L) (u : Value) (hu : u.oneCell' = true)
    (hx : a.eval x = .slice (some ⟨w.heap.size, 0, none⟩) 1 1) (hlen : L.length ≤ 33554432) (hb16 : bytes ≤ 16) (hbase : base ≤ w.heap.size)
    (h : ∀ v' w', OW w' base e v' (L ++ [u]) → w.grownBy w' v.ownBlock → (v'.ownBlock = v.ownBlock ∨ ∃ k, v'.ownBlock = some k ∧ w.heap.size ≤ k) → wpList P ops Q rest (a.put o.dst v') w') : wpList P ops Q (o :: rest) a (w.alloc (.cells #[u] e)) := by
  refine wpList_append_own_at (w.alloc (.cells #[u] e)) hgd s x t ho base e i z 1 bytes ht hi hz hsize hby hzs (by decide) v L.length L hs (World.ownsRow.alloc hown _) ⟨w.heap.size, 0, none⟩ 1 1 [u] hx rfl ?_ ?_ ?_ ?_ ?_ ?_
  · intro j y hj
    match j, hj with
    | 0, hj =>
      simp at hj; subst hj
      have : (⟨w.heap.size, 0, none⟩ : Addr).add 0 = ⟨w.heap.size, 0, none⟩ := by simp [Addr.add]
      rw [this, cell_of_row _ _ 0 _ _ _ (heap_alloc_new w _)]; rfl
  · intro y hy; simp at hy; subst hy; exact hu
  · unfold maxLen; omega
  · calc (L.length + 1) * bytes ≤ (L.length + 1) * 16 := Nat.mul_le_mul_left _ hb16
      _ ≤ 140737488355328 := by omega
  · have : (w.alloc (.cells #[u] e)).heap.size = w.heap.size + 1 := by simp
    omega
  · intro v' w' hown' hg _ hat
    refine h v' w' (OW.len hown') (grown_transM (World.grownBy_alloc w _ _) hg) ?_
    rcases hat with h1 | h1
    · exact .inl h1
    · exact .inr ⟨_, h1, by simp⟩

def intsV (L : List Int) : List Value := L.map (Value.int .i64)
/-- two rows of the call's own, in different blocks -/
def Two (w : World) (base : Nat) (v1 v2 : Value) (S R : List Int) : Prop :=
  OW w base 3 v1 (S.map (Value.int .i64)) ∧ OW w base 3 v2 (R.map (Value.int .i64)) ∧ v1.ownBlock ≠ v2.ownBlock
theorem ow_lt {w : World} {base : Nat} {e : TypeId} {v : Value} {L : List Value} (h : OW w base e v L) {k : Nat} (hk : v.ownBlock = some k) : base ≤ k ∧ k < w.heap.size := by
  rcases h.2 with ⟨rfl, _⟩ | ⟨g, cap, cur, rfl, hb, hg, _⟩
  · simp [Value.ownBlock] at hk
  · simp only [Value.ownBlock, Option.some.injEq] at hk
    subst hk
    refine ⟨hb, ?_⟩
    rcases Nat.lt_or_ge g w.heap.size with h | h
    · exact h
    · rw [Array.getElem?_eq_none h] at hg; cases hg
theorem ow_kept {w w' : World} {base : Nat} {e : TypeId} {v v2 : Value} {L : List Value} (h : OW w base e v L) (hg : w.grownBy w' v2.ownBlock) (hne : v.ownBlock ≠ v2.ownBlock) : OW w' base e v L := World.ownsRow.kept h hg (.inr hne)
theorem two_1 {w w' : World} {base : Nat} {v1 v2 v' : Value} {S R S' : List Int} (h : Two w base v1 v2 S R) (o : OW w' base 3 v' (S'.map (Value.int .i64))) (g : w.grownBy w' v1.ownBlock)
    (hl : v'.ownBlock = v1.ownBlock ∨ ∃ k, v'.ownBlock = some k ∧ w.heap.size ≤ k) : Two w' base v' v2 S' R := by
  obtain ⟨a, b, c⟩ := h
  refine ⟨o, ow_kept b g (fun e => c e.symm), ?_⟩
  rcases hl with h | ⟨k, h, hk⟩
  · rw [h]; exact c
  · rw [h]; intro e; have := (ow_lt b e.symm).2; omega
theorem two_2 {w w' : World} {base : Nat} {v1 v2 v' : Value} {S R R' : List Int} (h : Two w base v1 v2 S R) (o : OW w' base 3 v' (R'.map (Value.int .i64))) (g : w.grownBy w' v2.ownBlock)
    (hl : v'.ownBlock = v2.ownBlock ∨ ∃ k, v'.ownBlock = some k ∧ w.heap.size ≤ k) : Two w' base v1 v' S R' := by
  obtain ⟨a, b, c⟩ := h
  refine ⟨ow_kept a g c, o, ?_⟩
  rcases hl with h | ⟨k, h, hk⟩
  · rw [h]; exact c
  · rw [h]; intro e; have := (ow_lt a e).2; omega
theorem below_grownO {w w' : World} {B : Nat} {v : Value} (hg : w.grownBy w' v.ownBlock) (hB : B ≤ w.heap.size) (hv : ∀ k, v.ownBlock = some k → B ≤ k) : Below B w w' := (Below.refl B w).grown hg hB hv
/-- stacks as the reference keeps them -/
def szs (st : List (Nat × Int)) : List Int := st.reverse.map fun x => ((2 ^ x.1 : Nat) : Int)
def rvs (st : List (Nat × Int)) : List Int := st.reverse.map (·.2)
def ssum (st : List (Nat × Int)) : Nat := (st.map fun x => 2 ^ x.1).sum
theorem szs_cons (x : Nat × Int) (st : List (Nat × Int)) : szs (x :: st) = szs st ++ [((2 ^ x.1 : Nat) : Int)] := by unfold szs; rw [List.reverse_cons, List.map_append]; rfl
theorem rvs_cons (x : Nat × Int) (st : List (Nat × Int)) : rvs (x :: st) = rvs st ++ [x.2] := by unfold rvs; rw [List.reverse_cons, List.map_append]; rfl
theorem szs_len (st : List (Nat × Int)) : (szs st).length = st.length := by unfold szs; simp
theorem rvs_len (st : List (Nat × Int)) : (rvs st).length = st.length := by unfold rvs; simp
theorem szs_last (x : Nat × Int) (st : List (Nat × Int)) : (szs (x :: st))[st.length]? = some ((2 ^ x.1 : Nat) : Int) := by
  rw [szs_cons, List.getElem?_append_right (by rw [szs_len]; omega), szs_len, Nat.sub_self]; rfl
theorem rvs_last (x : Nat × Int) (st : List (Nat × Int)) : (rvs (x :: st))[st.length]? = some x.2 := by
  rw [rvs_cons, List.getElem?_append_right (by rw [rvs_len]; omega), rvs_len, Nat.sub_self]; rfl
theorem szs_pop (x : Nat × Int) (st : List (Nat × Int)) : (szs (x :: st)).take st.length = szs st := by rw [szs_cons, ← szs_len st]; exact List.take_left
theorem rvs_pop (x : Nat × Int) (st : List (Nat × Int)) : (rvs (x :: st)).take st.length = rvs st := by rw [rvs_cons, ← rvs_len st]; exact List.take_left
theorem ssum_cons (x : Nat × Int) (st : List (Nat × Int)) : ssum (x :: st) = 2 ^ x.1 + ssum st := rfl
theorem ssum_len : ∀ st : List (Nat × Int), st.length ≤ ssum st
  | [] => Nat.le_refl _
  | x :: st => by
    rw [ssum_cons, List.length_cons]
    have := ssum_len st
    have : 0 < 2 ^ x.1 := Nat.pow_pos (by decide)
    omega
theorem mstep_push {e f h : Nat} {st : List (Nat × Int)} {r : Int} (hx : ∀ h' r' st', st = (h', r') :: st' → ¬ (h' = h ∧ (e - 2 ^ (h + 1)) % 2 ^ (h + 1) = 0)) : mstep pr e (f + 1) st h r = (h, r) :: st := by
  cases st with
  | nil => rfl
  | cons x st =>
    unfold mstep
    rw [if_neg (hx x.1 x.2 st rfl)]
theorem mstep_join {e f h h' : Nat} {st : List (Nat × Int)} {r r' : Int} (h1 : h' = h) (h2 : (e - 2 ^ (h + 1)) % 2 ^ (h + 1) = 0) : mstep pr e (f + 1) ((h', r') :: st) h r = mstep pr e f st (h + 1) (pr r' r) := by
  conv => lhs; unfold mstep
  rw [if_pos ⟨h1, h2⟩]
theorem mergeF_step {hs : List Nat} {l : List Int} {j h : Nat} {r : Int} (hh : hs[j]? = some h) (hr : l[j]? = some r) (e : Nat) (st : List (Nat × Int)) :
    mergeF pr (hs.drop j) (l.drop j) e st = mergeF pr (hs.drop (j + 1)) (l.drop (j + 1)) (e + 2 ^ h) (mstep pr (e + 2 ^ h) 5 st h r) := by
  have e1 : hs.drop j = h :: hs.drop (j + 1) := by
    have hlt : j < hs.length := by
      rcases Nat.lt_or_ge j hs.length with h1 | h1
      · exact h1
      · rw [List.getElem?_eq_none h1] at hh; cases hh
    rw [List.getElem?_eq_getElem hlt] at hh
    simp only [Option.some.injEq] at hh
    rw [List.drop_eq_getElem_cons hlt, hh]
  have e2 : l.drop j = r :: l.drop (j + 1) := by
    have hlt : j < l.length := by
      rcases Nat.lt_or_ge j l.length with h1 | h1
      · exact h1
      · rw [List.getElem?_eq_none h1] at hr; cases hr
    rw [List.getElem?_eq_getElem hlt] at hr
    simp only [Option.some.injEq] at hr
    rw [List.drop_eq_getElem_cons hlt, hr]
  rw [e1, e2]; rfl
theorem mergeF_end {hs : List Nat} {l : List Int} {j : Nat} (h : hs.length ≤ j) (e : Nat) (st : List (Nat × Int)) : mergeF pr (hs.drop j) (l.drop j) e st = st := by
  rw [List.drop_eq_nil_of_le h]; rfl
theorem hsum_take {hs : List Nat} {j h : Nat} (hh : hs[j]? = some h) : ((hs.take j).map (2 ^ ·)).sum + 2 ^ h ≤ (hs.map (2 ^ ·)).sum ∧ ((hs.take (j + 1)).map (2 ^ ·)).sum = ((hs.take j).map (2 ^ ·)).sum + 2 ^ h := by
  have hlt : j < hs.length := by
    rcases Nat.lt_or_ge j hs.length with h1 | h1
    · exact h1
    · rw [List.getElem?_eq_none h1] at hh; cases hh
  rw [List.getElem?_eq_getElem hlt] at hh
  simp only [Option.some.injEq] at hh
  have h2 : ((hs.take (j + 1)).map (2 ^ ·)).sum = ((hs.take j).map (2 ^ ·)).sum + 2 ^ h := by
    rw [List.take_succ_eq_append_getElem hlt, hh, List.map_append, List.sum_append]; simp
  refine ⟨?_, h2⟩
  have h3 : hs.map (2 ^ ·) = (hs.take (j + 1)).map (2 ^ ·) ++ (hs.drop (j + 1)).map (2 ^ ·) := by rw [← List.map_append, List.take_append_drop]
  rw [h3, List.sum_append, h2]; omega
theorem own_cutM {w : World} {base g n cap k : Nat} {e : TypeId} {L : List Value} (h : OW w base e (.slice (some ⟨g, 0, none⟩) n cap) L) (hk : k ≤ L.length) : OW w base e (.slice (some ⟨g, 0, none⟩) k cap) (L.take k) := by
  unfold OW at *
  obtain ⟨h1, h2⟩ := h
  have hlen : (L.take k).length = k := by rw [List.length_take]; omega
  rw [hlen]
  refine ⟨by rw [hlen, Nat.mul_one], ?_⟩
  rcases h2 with ⟨hv, _⟩ | ⟨g', cap', cur, hv, hb, hg, hnc, hm, hs, ht⟩
  · cases hv
  · simp only [Value.slice.injEq, Option.some.injEq, Addr.mk.injEq, and_true] at hv
    obtain ⟨rfl, _, rfl⟩ := hv
    refine .inr ⟨g, cap, cur, rfl, hb, hg, by omega, hm, hs, ?_⟩
    rw [Nat.mul_one] at ht ⊢
    rw [← ht, List.take_take, Nat.min_eq_left hk]
theorem two_cut1 {w : World} {base g n cap k : Nat} {v2 : Value} {S R : List Int} (h : Two w base (.slice (some ⟨g, 0, none⟩) n cap) v2 S R) (hk : k ≤ S.length) : Two w base (.slice (some ⟨g, 0, none⟩) k cap) v2 (S.take k) R := by
  obtain ⟨a, b, c⟩ := h
  refine ⟨?_, b, c⟩
  rw [List.map_take]
  exact own_cutM a (by rw [List.length_map]; exact hk)
theorem two_cut2 {w : World} {base g n cap k : Nat} {v1 : Value} {S R : List Int} (h : Two w base v1 (.slice (some ⟨g, 0, none⟩) n cap) S R) (hk : k ≤ R.length) : Two w base v1 (.slice (some ⟨g, 0, none⟩) k cap) S (R.take k) := by
  obtain ⟨a, b, c⟩ := h
  refine ⟨a, ?_, c⟩
  rw [List.map_take]
  exact own_cutM b (by rw [List.length_map]; exact hk)
theorem two_drew {w : World} {base : Nat} {v1 v2 : Value} {S R : List Int} (h : Two w base v1 v2 S R) (m : Nat) : Two (w.drewN m) base v1 v2 S R := ⟨h.1.drewN m, h.2.1.drewN m, h.2.2⟩
theorem two_same {w w' : World} {base : Nat} {v1 v2 : Value} {S R : List Int} (h : Two w base v1 v2 S R) (hb : Below w.heap.size w w') : Two w' base v1 v2 S R := ⟨h.1.next hb (Nat.le_refl _), h.2.1.next hb (Nat.le_refl _), h.2.2⟩
theorem two_push1 {w w' : World} {base : Nat} {v1 v2 v' : Value} {S R S' : List Int} {x : Int} (h : Two w base v1 v2 S R) (o : OW w' base 3 v' (S.map (Value.int .i64) ++ [.int .i64 x])) (g : w.grownBy w' v1.ownBlock)
    (hl : v'.ownBlock = v1.ownBlock ∨ ∃ k, v'.ownBlock = some k ∧ w.heap.size ≤ k) (hS : S' = S ++ [x]) : Two w' base v' v2 S' R := two_1 h (by rw [hS, List.map_append]; exact o) g hl
theorem two_push2 {w w' : World} {base : Nat} {v1 v2 v' : Value} {S R R' : List Int} {x : Int} (h : Two w base v1 v2 S R) (o : OW w' base 3 v' (R.map (Value.int .i64) ++ [.int .i64 x])) (g : w.grownBy w' v2.ownBlock)
    (hl : v'.ownBlock = v2.ownBlock ∨ ∃ k, v'.ownBlock = some k ∧ w.heap.size ≤ k) (hR : R' = R ++ [x]) : Two w' base v1 v' S R' := two_2 h (by rw [hR, List.map_append]; exact o) g hl
theorem own_cells {w : World} {base : Nat} {e : TypeId} {v : Value} {L : List Int} (h : OW w base e v (L.map (Value.int .i64))) (h0 : 0 < L.length) :
    ∃ g cap, v = .slice (some ⟨g, 0, none⟩) L.length cap ∧ L.length ≤ cap ∧ base ≤ g ∧ g < w.heap.size ∧ ∀ i x, L[i]? = some x → w.cell? ⟨g, i, none⟩ = some (.int .i64 x) := by
  obtain ⟨g, cap, hv, hl, hb, hg⟩ := own_form h (by rw [List.length_map]; exact h0)
  rw [List.length_map] at hv hl
  subst hv
  refine ⟨g, cap, rfl, hl, hb, hg, fun i x hx => ?_⟩
  obtain ⟨A, c, hv, _, _, hc⟩ := h.rv
  obtain ⟨b, off, hA, _, hcell⟩ := hc (by rw [List.length_map]; exact h0)
  rw [hA] at hv
  simp only [Value.slice.injEq, Option.some.injEq, Addr.mk.injEq] at hv
  obtain ⟨⟨rfl, rfl, _⟩, _⟩ := hv
  have := hcell i (.int .i64 x) (by rw [List.getElem?_map, hx]; rfl)
  rw [Nat.zero_add] at this
  exact this
theorem own_shape {w : World} {base : Nat} {e : TypeId} {v : Value} {L : List Int} (h : OW w base e v (L.map (Value.int .i64))) : ∃ A cap, v = .slice A L.length cap := by
  obtain ⟨A, c, hv, _⟩ := h.rv
  rw [List.length_map] at hv
  exact ⟨A, c, hv⟩
theorem pow_injM {j h : Nat} : 2 ^ j = 2 ^ h ↔ j = h := ⟨fun e => by
  rcases Nat.lt_trichotomy j h with h1 | h1 | h1
  · have := Nat.pow_lt_pow_right (a := 2) (by decide) h1; omega
  · exact h1
  · have := Nat.pow_lt_pow_right (a := 2) (by decide) h1; omega, fun e => by rw [e]⟩
theorem pow_le16 {h e s : Nat} (hs : s + 2 ^ h = e) (he : e ≤ 16) : h ≤ 4 := by
  rcases Nat.lt_or_ge h 5 with h1 | h1
  · omega
  · have : 2 ^ 5 ≤ 2 ^ h := Nat.pow_le_pow_right (by decide) h1
    omega
theorem two_start (w : World) : Two ((w.alloc (.cells #[] 3)).alloc (.cells #[] 3)) w.heap.size (.slice (some ⟨w.heap.size, 0, none⟩) 0 0) (.slice (some ⟨w.heap.size + 1, 0, none⟩) 0 0) [] [] := by
  have h2 := own_empty (w := w.alloc (.cells #[] 3)) (base := w.heap.size) (e := 3) (by simp)
  have hs : (w.alloc (.cells #[] 3)).heap.size = w.heap.size + 1 := by simp
  rw [hs] at h2
  exact ⟨(own_empty (Nat.le_refl _)).alloc _, h2, by simp [Value.ownBlock]⟩
def MgOut (hs : List Nat) (l : List Int) (X : List (Nat × Int)) (w : World) (s o a i : Value) (wr : World) : Prop :=
  ∃ (j e : Nat) (st : List (Nat × Int)), j ≤ hs.length ∧ i = .int .i64 j ∧ a = .int .i64 e ∧ Two wr w.heap.size s o (szs st) (rvs st) ∧ Below w.heap.size w wr ∧ Hid (mergeF pr (hs.drop j) (l.drop j) e st = X) ∧ Hid (e = ((hs.take j).map (2 ^ ·)).sum) ∧ ssum st = e ∧ Hid (∀ x ∈ st, digB x.2 = true)
def MgIn (w wo : World) (E : Nat) (M : List (Nat × Int)) (s o z rr : Value) : Prop :=
  ∃ (f h1 z1 : Nat) (r1 : Int) (st1 : List (Nat × Int)), z = .int .i64 (z1 : Int) ∧ Hid (z1 = 2 ^ h1) ∧ rr = .int .i64 r1 ∧ Two wo w.heap.size s o (szs st1) (rvs st1) ∧ Hid (mstep pr E f st1 h1 r1 = M) ∧ Hid (ssum st1 + z1 = E) ∧ 5 ≤ f + h1 ∧ digB r1 = true ∧ Hid (∀ x ∈ st1, digB x.2 = true)
set_option maxHeartbeats 8000000 in
set_option maxRecDepth 100000 in
theorem l2Merge_any (hs : List Nat) (l : List Int) (v1 v2 : Value) (B : Nat) (w : World) (r1 : RV w B v1 ((hs.map fun h => ((2 ^ h : Nat) : Int)).map (Value.int .i64))) (r2 : RV w B v2 (l.map (Value.int .i64))) (hB : B ≤ w.heap.size)
    (hlen : l.length = hs.length) (hd : digs l = true) (hsum : (hs.map (2 ^ ·)).sum ≤ 16) (h9 : hs.length ≤ 16) :
    Calls Try.prog 38 #[v1, v2] w (NewRow w 3 ((((mergeF pr hs l 0 []).reverse).map (·.2)).map (Value.int .i64))) := by
  obtain ⟨X, hX⟩ : ∃ X, mergeF pr hs l 0 [] = X := ⟨_, rfl⟩
  have HX := hid' hX
  rw [hX]
  obtain ⟨A1, c1, rfl, hl1, hm1, hc1⟩ := rv_ints2 r1
  obtain ⟨A2, c2, rfl, hl2, hm2, hc2⟩ := rv_ints2 r2
  rw [List.length_map] at hl1 hc1 ⊢
  obtain ⟨j0, ji, jz0, jz1, jz2⟩ := info_parts infoInt
  have HC1 := hid' hc1
  have HC2 := hid' hc2
  have HL := hid' hlen
  clear hlen hc1 hc2 r1 r2 hX
  go_enter Try.func38, Try.ntmps38
  go_wp2_with fail
  go_loopw [5, 6, 7, 8] (fun s o a i wr => MgOut hs l X w s o a i wr) (fun _ _ _ i _ => hs.length - (intOf i).toNat)
  case atStart => exact show MgOut _ _ _ _ _ _ _ _ _ from ⟨0, 0, [], Nat.zero_le _, rfl, rfl, two_start w, balloc (bnew w _) _, by unfold Hid; rw [List.drop_zero, List.drop_zero]; exact HX.out, by unfold Hid; simp, rfl, fun x hx => by simp at hx⟩
  case round =>
    obtain ⟨j, e, st, hj, rfl, rfl, htwo, hbel, hmg, hes, hss, hdg⟩ := hrel
    by_cases hlt : j < hs.length
    · obtain ⟨b1, o1, rfl, hb1, hx1⟩ := HC1.out (by omega)
      obtain ⟨b2, o2, rfl, hb2, hx2⟩ := HC2.out (by have := HL.out; omega)
      obtain ⟨h, hh⟩ : ∃ h, hs[j]? = some h := ⟨hs[j], List.getElem?_eq_getElem hlt⟩
      have hjl : j < l.length := by have := HL.out; omega
      obtain ⟨r, hr⟩ : ∃ r, l[j]? = some r := ⟨l[j], List.getElem?_eq_getElem hjl⟩
      have hrd := digs_get hr hd
      obtain ⟨s1, s2⟩ := hsum_take hh
      have hcx1 : wr.cell? ⟨b1, o1 + j, none⟩ = some (.int .i64 ((2 ^ h : Nat) : Int)) := (hbel.cell (p := ⟨b1, o1 + j, none⟩) (by show b1 < _; omega)).trans (hx1 j _ (by rw [List.getElem?_map, hh]; rfl))
      have hcx2 : wr.cell? ⟨b2, o2 + j, none⟩ = some (.int .i64 r) := (hbel.cell (p := ⟨b2, o2 + j, none⟩) (by show b2 < _; omega)).trans (hx2 j _ hr)
      have he16 : e + 2 ^ h ≤ 16 := by have := hes.out; omega
      have hmg2 : Hid (mergeF pr (hs.drop (j + 1)) (l.drop (j + 1)) (e + 2 ^ h) (mstep pr (e + 2 ^ h) 5 st h r) = X) := by unfold Hid; rw [← mergeF_step hh hr]; exact hmg.out
      have hes2 : Hid (e + 2 ^ h = ((hs.take (j + 1)).map (2 ^ ·)).sum) := by unfold Hid; rw [s2, ← hes.out]
      obtain ⟨y, hy⟩ : ∃ y : Nat, y = 2 ^ h := ⟨_, rfl⟩
      rw [← hy] at hcx1 he16 hmg2 hes2
      have HY := hid' hy
      have y16 : y ≤ 16 := by omega
      have jl2 : (j : Int) < (l.length : Int) := by omega
      have HHH := hid' hh
      have HRR := hid' hr
      clear hh hr s1 s2 hx1 hx2 hmg hes hy
      obtain ⟨E, hE⟩ : ∃ E : Nat, E = e + y := ⟨_, rfl⟩
      obtain ⟨M, hM⟩ : ∃ M, mstep pr E 5 st h r = M := ⟨_, rfl⟩
      have ey16 := he16
      rw [← hE] at he16 hmg2 hes2
      rw [hM] at hmg2
      have HE := hid' hE
      have HM := hid' hM
      clear hE hM
      obtain ⟨wo, hwo⟩ : ∃ wo : World, wo = wr := ⟨_, rfl⟩
      subst hwo
      go_wp2_with fail
      go_loop [5, 6, 9, 10] (fun s o z rr => MgIn w wo E M s o z rr) (fun _ _ z _ => 32 - (intOf z).toNat)
      case atStart => exact show MgIn _ _ _ _ _ _ _ _ from ⟨5, h, y, r, st, rfl, HY, rfl, htwo, HM, by unfold Hid; rw [HE.out, hss], by omega, hrd, hdg⟩
      case round =>
        obtain ⟨f1, h1, z1, r1, st1, rfl, HZ, rfl, hti, hmi, hsi, hfi, hrd1, hdi⟩ := hrel
        have h14 : h1 ≤ 4 := pow_le16 (e := E) (s := ssum st1) (by rw [← HZ.out]; exact hsi.out) (by omega)
        obtain ⟨f2, rfl⟩ : ∃ f2, f1 = f2 + 1 := ⟨f1 - 1, by omega⟩
        have hz1 : z1 ≤ 16 := by have := hsi.out; omega
        have hz0 : 1 ≤ z1 := by rw [HZ.out]; exact Nat.pow_pos (by decide)
        obtain ⟨rd0, rd1⟩ := digB_true.1 hrd1
        cases st1 with
        | nil =>
          obtain ⟨AS, cS, rfl⟩ := own_shape hti.1
          obtain ⟨AO, cO, rfl⟩ := own_shape hti.2.1
          have HP : Hid (mstep pr E (f2 + 1) [] h1 r1 = [(h1, r1)]) := mstep_push fun h' r' st' e => by cases e
          have HP2 := hid' (rfl : (szs ([] : List (Nat × Int))).length = 0)
          obtain ⟨st1, hst1⟩ : ∃ st1 : List (Nat × Int), st1 = [] := ⟨_, rfl⟩
          have n1 : (szs st1).length = 0 := by rw [hst1]; rfl
          have n2 : (rvs st1).length = 0 := by rw [hst1]; rfl
          rw [← hst1] at hti hmi hsi hdi HP ⊢
          have N1 := hid' n1
          have N2 := hid' n2
          clear hst1 n1 n2
          rw [N1.out, N2.out] at hti ⊢
          have HEND : Hid (mergeF pr (hs.drop (j + 1)) (l.drop (j + 1)) E ((h1, r1) :: st1) = X) := by unfold Hid; rw [← HP.out, hmi.out]; exact hmg2.out
          have hlS : ((szs st1).map (Value.int .i64)).length ≤ 33554432 := by have := ssum_len st1; have := hsi.out; rw [List.length_map, szs_len]; omega
          have hlO : ((rvs st1).map (Value.int .i64)).length ≤ 33554432 := by have := ssum_len st1; have := hsi.out; rw [List.length_map, rvs_len]; omega
          have bO := hti.2.1
          have hbs := hbel.size
          clear HP hmi
          go_wp2_with (first
            | (at_builtin; refine wpList_push_at _ rfl _ _ 22 rfl w.heap.size 3 j0 (.int .i64 0) 8 Try.underlying22 ji jz0 jz1 jz2 rfl _ _ rfl bO _ rfl rfl hlO (by decide) hbs ?_; intro vO2 w3 oO gO lO; have htw2 := two_push2 (R' := rvs ((h1, r1) :: st1)) hti oO gO lO (rvs_cons _ _); have hbel2 := hbel.trans (below_grownO gO hbs fun k hk => (ow_lt bO hk).1); have bS := htw2.1; have hbs2 := hbel2.size; clear bO hti hbs)
            | (at_builtin; refine wpList_push_at _ rfl _ _ 22 rfl w.heap.size 3 j0 (.int .i64 0) 8 Try.underlying22 ji jz0 jz1 jz2 rfl _ _ rfl bS _ rfl rfl hlS (by decide) hbs2 ?_; intro vS2 w4 oS gS lS; have htw3 := two_push1 (S' := szs ((h1, r1) :: st1)) htw2 oS gS lS (by rw [szs_cons, HZ.out]); have hbel3 := hbel2.trans (below_grownO gS hbs2 fun k hk => (ow_lt bS hk).1)))
          have hssum : ssum ((h1, r1) :: st1) = E := by have := hsi.out; have := HZ.out; rw [ssum_cons]; show 2 ^ h1 + _ = _; omega
          have hdg2 : Hid (∀ x ∈ (h1, r1) :: st1, digB x.2 = true) := fun x hx => by
            rcases List.mem_cons.1 hx with h | h
            · rw [h]; exact hrd1
            · exact hdi.out x h
          go_roundw
          case rel => exact show MgOut hs l X w vS2 vO2 (.int .i64 ((e : Int) + (y : Int))) (.int .i64 ((j : Int) + 1)) w4 from ⟨j + 1, E, (h1, r1) :: st1, by omega, by go_num, by rw [HE.out]; go_num, htw3, hbel3, HEND, hes2, hssum, hdg2⟩
          case measure => simp [intOf]; omega
        | cons x st2 =>
          obtain ⟨h2, r2⟩ := x
          have l1 := szs_len ((h2, r2) :: st2)
          have l2 := rvs_len ((h2, r2) :: st2)
          have hr2 : digB r2 = true := hdi.out (h2, r2) (by simp)
          obtain ⟨rr0, rr1⟩ := digB_true.1 hr2
          obtain ⟨gS, cS, hvS, hlS0, _, _, hxS⟩ := own_cells hti.1 (by rw [l1]; simp)
          obtain ⟨gO, cO, hvO, hlO0, _, _, hxO⟩ := own_cells hti.2.1 (by rw [l2]; simp)
          subst hvS
          subst hvO
          have q1 := hxS st2.length _ (szs_last _ _)
          have q2 := hxO st2.length _ (rvs_last _ _)
          obtain ⟨k, hk⟩ : ∃ k : Nat, k = st2.length := ⟨_, rfl⟩
          have HK := hid' hk
          rw [List.length_cons] at l1 l2
          rw [l1] at hlS0
          rw [l2] at hlO0
          rw [l1, l2] at hti ⊢
          rw [← hk] at q1 q2 hlS0 hlO0 hti ⊢
          obtain ⟨y2, hy2⟩ : ∃ y2 : Nat, y2 = 2 ^ h2 := ⟨_, rfl⟩
          have HY2 := hid' hy2
          have hy20 : 1 ≤ y2 := by rw [hy2]; exact Nat.pow_pos (by decide)
          change wo.cell? ⟨gS, k, none⟩ = some (.int .i64 ((2 ^ h2 : Nat) : Int)) at q1
          change wo.cell? ⟨gO, k, none⟩ = some (.int .i64 r2) at q2
          rw [← hy2] at q1
          have hsum2 : Hid (y2 + ssum st2 + z1 = E) := by have := hsi.out; rw [ssum_cons] at this; unfold Hid; rw [hy2]; exact this
          have y2b : y2 ≤ 16 := by have := hsum2.out; omega
          have k1 : k ≤ 16 := by have := ssum_len st2; have := hsum2.out; omega
          clear l1 l2 hxS hxO hk hy2
          by_cases hyz : y2 = z1
          · have t0 : ((y2 : Int) == (z1 : Int)) = true := beq_iff_eq.2 (by omega)
            have hE2 : 2 * z1 ≤ E := by have := hsum2.out; omega
            have hzne : ((2 * (z1 : Int)) == 0) = false := beq_eq_false_iff_ne.2 (by omega)
            have hh12 : h2 = h1 := pow_injM.1 (by rw [← HY2.out, ← HZ.out]; exact hyz)
            have hdbl : 2 * z1 = 2 ^ (h1 + 1) := by rw [Nat.pow_succ, ← HZ.out, Nat.mul_comm]
            obtain ⟨qq, hqq⟩ : ∃ qq : Nat, qq = (E - 2 * z1) % (2 * z1) := ⟨_, rfl⟩
            have u1 : ((e : Int) + (y : Int) - 2 * (z1 : Int)).tmod (2 * (z1 : Int)) = (qq : Int) := by
              rw [show (e : Int) + (y : Int) - 2 * (z1 : Int) = ((E - 2 * z1 : Nat) : Int) by have := HE.out; omega, show 2 * (z1 : Int) = ((2 * z1 : Nat) : Int) by omega, Int.tmod_eq_emod_of_nonneg (by omega), hqq]; rfl
            have u2 : ((e : Int) + (y : Int) - 2 * (z1 : Int)) % (2 * (z1 : Int)) = (qq : Int) := by
              rw [show (e : Int) + (y : Int) - 2 * (z1 : Int) = ((E - 2 * z1 : Nat) : Int) by have := HE.out; omega, show 2 * (z1 : Int) = ((2 * z1 : Nat) : Int) by omega, hqq]; rfl
            have HQ := hid' hqq
            clear hqq
            by_cases hq : qq = 0
            · have t1 : ((qq : Int) == 0) = true := beq_iff_eq.2 (by omega)
              have HJ : Hid (mstep pr E f2 st2 (h1 + 1) (pr r2 r1) = M) := by unfold Hid; rw [← hmi.out]; exact (mstep_join hh12 (by rw [← hdbl, ← HQ.out]; exact hq)).symm
              have hc1 : Two wo w.heap.size (.slice (some ⟨gS, 0, none⟩) k cS) (.slice (some ⟨gO, 0, none⟩) k cO) (szs st2) (rvs st2) := by
                have c1 := two_cut1 (k := k) hti (by rw [szs_len, HK.out]; simp)
                have c2 := two_cut2 (k := k) c1 (by rw [rvs_len, HK.out]; simp)
                rwa [HK.out, szs_pop, rvs_pop, ← HK.out] at c2
              have hpd := pr_dig r2 r1
              have HS2 : Hid (ssum st2 + 2 * z1 = E) := by have := hsum2.out; unfold Hid; omega
              have HZ2 : Hid (2 * z1 = 2 ^ (h1 + 1)) := hdbl
              have HD2 : Hid (∀ x ∈ st2, digB x.2 = true) := fun x hx => hdi.out x (by simp [hx])
              clear hti hmi hdi hq hdbl hyz HQ hh12
              (go_wp2_with fail; (with_reducible refine (l1Pair_any r2 r1 _ rr0 (by omega) rd0 (by omega)).mono ?_); rintro _ _ ⟨rfl, rfl⟩)
              go_wp2_with fail
              go_round
              case rel =>
                have HR : MgIn w wo E M (.slice (some ⟨gS, 0, none⟩) k cS) (.slice (some ⟨gO, 0, none⟩) k cO) (.int .i64 (2 * (z1 : Int))) (.int .i64 (pr r2 r1)) := ⟨f2, h1 + 1, 2 * z1, pr r2 r1, st2, by go_num, HZ2, rfl, hc1, HJ, HS2, by omega, hpd, HD2⟩
                exact HR
              case measure => simp [intOf]; omega
            · have t1 : ((qq : Int) == 0) = false := beq_eq_false_iff_ne.2 (by omega)
              have HP : Hid (mstep pr E (f2 + 1) ((h2, r2) :: st2) h1 r1 = (h1, r1) :: (h2, r2) :: st2) := mstep_push fun h' r' st' e => by
                rintro ⟨_, hx⟩
                rw [← hdbl, ← HQ.out] at hx; exact hq hx
              clear hq hdbl HQ hh12 hyz
              have HEND : Hid (mergeF pr (hs.drop (j + 1)) (l.drop (j + 1)) E ((h1, r1) :: (h2, r2) :: st2) = X) := by unfold Hid; rw [← HP.out, hmi.out]; exact hmg2.out
              have hlS : ((szs ((h2, r2) :: st2)).map (Value.int .i64)).length ≤ 33554432 := by have := ssum_len ((h2, r2) :: st2); have := hsi.out; rw [List.length_map, szs_len]; omega
              have hlO : ((rvs ((h2, r2) :: st2)).map (Value.int .i64)).length ≤ 33554432 := by have := ssum_len ((h2, r2) :: st2); have := hsi.out; rw [List.length_map, rvs_len]; omega
              have bO := hti.2.1
              have hbs := hbel.size
              clear HP hmi
              go_wp2_with (first
                | (at_builtin; refine wpList_push_at _ rfl _ _ 22 rfl w.heap.size 3 j0 (.int .i64 0) 8 Try.underlying22 ji jz0 jz1 jz2 rfl _ _ rfl bO _ rfl rfl hlO (by decide) hbs ?_; intro vO2 w3 oO gO lO; have htw2 := two_push2 (R' := rvs ((h1, r1) :: (h2, r2) :: st2)) hti oO gO lO (rvs_cons _ _); have hbel2 := hbel.trans (below_grownO gO hbs fun k hk => (ow_lt bO hk).1); have bS := htw2.1; have hbs2 := hbel2.size; clear bO hti hbs)
                | (at_builtin; refine wpList_push_at _ rfl _ _ 22 rfl w.heap.size 3 j0 (.int .i64 0) 8 Try.underlying22 ji jz0 jz1 jz2 rfl _ _ rfl bS _ rfl rfl hlS (by decide) hbs2 ?_; intro vS2 w4 oS gS lS; have htw3 := two_push1 (S' := szs ((h1, r1) :: (h2, r2) :: st2)) htw2 oS gS lS (by rw [szs_cons, HZ.out]); have hbel3 := hbel2.trans (below_grownO gS hbs2 fun k hk => (ow_lt bS hk).1)))
              have hssum : ssum ((h1, r1) :: (h2, r2) :: st2) = E := by have := hsi.out; have := HZ.out; rw [ssum_cons]; show 2 ^ h1 + _ = _; omega
              have hdg2 : Hid (∀ x ∈ (h1, r1) :: (h2, r2) :: st2, digB x.2 = true) := fun x hx => by
                rcases List.mem_cons.1 hx with h | h
                · rw [h]; exact hrd1
                · exact hdi.out x h
              go_roundw
              case rel => exact show MgOut hs l X w vS2 vO2 (.int .i64 ((e : Int) + (y : Int))) (.int .i64 ((j : Int) + 1)) w4 from ⟨j + 1, E, (h1, r1) :: (h2, r2) :: st2, by omega, by go_num, by rw [HE.out]; go_num, htw3, hbel3, HEND, hes2, hssum, hdg2⟩
              case measure => simp [intOf]; omega
          · have t0 : ((y2 : Int) == (z1 : Int)) = false := beq_eq_false_iff_ne.2 (by omega)
            have HP : Hid (mstep pr E (f2 + 1) ((h2, r2) :: st2) h1 r1 = (h1, r1) :: (h2, r2) :: st2) := mstep_push fun h' r' st' e => by
              rintro ⟨hx, _⟩
              simp only [List.cons.injEq, Prod.mk.injEq] at e
              exact hyz (by rw [HY2.out, HZ.out, e.1.1, hx])
            clear hyz
            have HEND : Hid (mergeF pr (hs.drop (j + 1)) (l.drop (j + 1)) E ((h1, r1) :: (h2, r2) :: st2) = X) := by unfold Hid; rw [← HP.out, hmi.out]; exact hmg2.out
            have hlS : ((szs ((h2, r2) :: st2)).map (Value.int .i64)).length ≤ 33554432 := by have := ssum_len ((h2, r2) :: st2); have := hsi.out; rw [List.length_map, szs_len]; omega
            have hlO : ((rvs ((h2, r2) :: st2)).map (Value.int .i64)).length ≤ 33554432 := by have := ssum_len ((h2, r2) :: st2); have := hsi.out; rw [List.length_map, rvs_len]; omega
            have bO := hti.2.1
            have hbs := hbel.size
            clear HP hmi
            go_wp2_with (first
              | (at_builtin; refine wpList_push_at _ rfl _ _ 22 rfl w.heap.size 3 j0 (.int .i64 0) 8 Try.underlying22 ji jz0 jz1 jz2 rfl _ _ rfl bO _ rfl rfl hlO (by decide) hbs ?_; intro vO2 w3 oO gO lO; have htw2 := two_push2 (R' := rvs ((h1, r1) :: (h2, r2) :: st2)) hti oO gO lO (rvs_cons _ _); have hbel2 := hbel.trans (below_grownO gO hbs fun k hk => (ow_lt bO hk).1); have bS := htw2.1; have hbs2 := hbel2.size; clear bO hti hbs)
              | (at_builtin; refine wpList_push_at _ rfl _ _ 22 rfl w.heap.size 3 j0 (.int .i64 0) 8 Try.underlying22 ji jz0 jz1 jz2 rfl _ _ rfl bS _ rfl rfl hlS (by decide) hbs2 ?_; intro vS2 w4 oS gS lS; have htw3 := two_push1 (S' := szs ((h1, r1) :: (h2, r2) :: st2)) htw2 oS gS lS (by rw [szs_cons, HZ.out]); have hbel3 := hbel2.trans (below_grownO gS hbs2 fun k hk => (ow_lt bS hk).1)))
            have hssum : ssum ((h1, r1) :: (h2, r2) :: st2) = E := by have := hsi.out; have := HZ.out; rw [ssum_cons]; show 2 ^ h1 + _ = _; omega
            have hdg2 : Hid (∀ x ∈ (h1, r1) :: (h2, r2) :: st2, digB x.2 = true) := fun x hx => by
              rcases List.mem_cons.1 hx with h | h
              · rw [h]; exact hrd1
              · exact hdi.out x h
            go_roundw
            case rel => exact show MgOut hs l X w vS2 vO2 (.int .i64 ((e : Int) + (y : Int))) (.int .i64 ((j : Int) + 1)) w4 from ⟨j + 1, E, (h1, r1) :: (h2, r2) :: st2, by omega, by go_num, by rw [HE.out]; go_num, htw3, hbel3, HEND, hes2, hssum, hdg2⟩
            case measure => simp [intOf]; omega
    · have hje : j = hs.length := by omega
      have HEND : Hid (st = X) := by have := hmg.out; rw [mergeF_end (by omega)] at this; exact this
      go_wp2_with fail
      go_ret
      refine newrow_of ?_ hbel
      rw [← HEND.out]
      exact htwo.2.1
end Go.Proofs.Ytpbdehncmincaaa
