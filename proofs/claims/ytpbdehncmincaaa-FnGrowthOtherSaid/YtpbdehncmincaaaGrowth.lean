/- The walks of TreeGrowth. -/
import Derived.Test.YtpbdehncmincaaaTD
import Derived.Test.YtpbdehncmincaaaTreeLaw
namespace Go.Proofs.Ytpbdehncmincaaa
set_option linter.unusedVariables false
open Go.RowKit

theorem rv_ints2 {w : World} {B : Nat} {v : Value} {L : List Int} (h : RV w B v (L.map (Value.int .i64))) :
    ∃ A cap, v = .slice A L.length cap ∧ L.length ≤ cap ∧ cap ≤ maxLen ∧ (0 < L.length → ∃ b off, A = some ⟨b, off, none⟩ ∧ b < B ∧ ∀ i x, L[i]? = some x → w.cell? ⟨b, off + i, none⟩ = some (.int .i64 x)) := by
  obtain ⟨A, cap, hv, hl, hm, hc⟩ := h
  rw [List.length_map] at hv hl hc
  refine ⟨A, cap, hv, hl, hm, fun h0 => ?_⟩
  obtain ⟨b, off, hA, hb, hcell⟩ := hc h0
  exact ⟨b, off, hA, hb, fun i x hx => hcell i _ (by rw [List.getElem?_map, hx]; rfl)⟩
theorem run_append_emptyT {P : Program} (w : World) (base : Nat) (t ty e : TypeId) (i : TypeInfo) (ht : P.underlying t = some (.slice e)) (hi : P.info? e = some i)
    (v : Value) (n size : Nat) (xs : List Value) (hown : w.ownsRow base e size v n xs) (c : Nat) : (Builtin.append_ #[t, t] ty #[v, .slice none 0 c]).run P w = .ok v w := by
  rcases hown.2 with ⟨rfl, rfl⟩ | ⟨g, cap, cur, rfl, _, _, hnc, _⟩
  · simp [Builtin.append_, run_underlying ht, sizeOf, typeInfo, hi, Builtin.lenOf, Builtin.firstCells]
  · simp [Builtin.append_, run_underlying ht, sizeOf, typeInfo, hi, Builtin.lenOf, Builtin.firstCells, hnc, storeCells]
theorem flatT_app (D E : List (Nat × Nat)) : flatT (D ++ E) = flatT D ++ flatT E := by unfold flatT; rw [List.flatMap_append]
theorem flatT_one (D : List (Nat × Nat)) : ∀ u ∈ flatT D, u.oneCell' = true := by
  intro u hu
  unfold flatT at hu
  obtain ⟨t, _, h⟩ := List.mem_flatMap.1 hu
  simp only [List.mem_cons, List.not_mem_nil, or_false] at h
  rcases h with rfl | rfl <;> rfl
/-- An append of a row of trees to a row of trees of the call's own. -/
theorem wpList_appT (w : World) {ops : Array Oper} {rest : List Oper} {o : Oper} {a : Act} {Q : Exit → Act → World → Prop} (hgd : o.guard = none) (s x : Operand)
    (ho : o.op = .call { callee := .builtin .append, args := #[s, x], argTypes := #[42, 42] })
    (base base2 : Nat) (i : TypeInfo) (hi : Try.prog.info? 49 = some i) (hz : i.zero = some (.agg #[.int .i64 0, .int .i64 0]))
    (hsize : i.size = 2) (hby : i.bytes = 16)
    (v v2 : Value) (D E : List (Nat × Nat)) (hs : a.eval s = v) (hown : OT w base v D) (hx : a.eval x = v2) (hE : OT w base2 v2 E) (hlen : D.length + E.length ≤ 33554432) (hbase : base ≤ w.heap.size)
    (h : ∀ v' w', OT w' base v' (D ++ E) → Below base w w' → wpList Try.prog ops Q rest (a.put o.dst v') w') : wpList Try.prog ops Q (o :: rest) a w := by
  rcases hE.2 with ⟨rfl, h0⟩ | ⟨g, cap, cur, rfl, _, hg, hnc, _⟩
  · have hE0 : E = [] := List.eq_nil_of_length_eq_zero h0
    subst hE0
    refine wpList_plain hgd fun K hK => ?_
    have hr := run_append_emptyT (P := Try.prog) w base 42 o.type 49 i Try.underlying42 hi v D.length 2 (flatT D) hown 0
    unfold Oper.wp
    simp [execOp, ho, resolve, invoke, builtin, hs, hx, hr, Result.andThen]
    exact hK _ _ (h v w (by rw [List.append_nil]; exact hown) (Below.refl _ _))
  · refine wpList_append_own w hgd s x 42 ho base 49 i _ 2 16 Try.underlying42 hi hz hsize hby rfl (by decide) v D.length (flatT D) hs hown ⟨g, 0, none⟩ E.length cap (flatT E) hx (flatT_len E) ?_ (flatT_one E) ?_ ?_ hbase ?_
    · intro j u hj
      have hlt : j < E.length * 2 := by
        rw [← flatT_len]
        rcases Nat.lt_or_ge j (flatT E).length with h2 | h2
        · exact h2
        · rw [List.getElem?_eq_none h2] at hj; cases hj
      have := hE.cellAt j hlt
      rw [hj] at this
      by_cases h0 : j = 0
      · subst h0; simpa [Addr.add] using this
      · simpa [Addr.add, h0] using this
    · unfold maxLen; omega
    · omega
    · intro v' w' hown' hg' _
      refine h v' w' ?_ ((Below.refl base w).grown hg' hbase fun k hk => (World.ownsRow.lt hown k hk).1)
      unfold OT
      rw [flatT_app, List.length_append]; exact hown'
theorem tgrowth_no {L : List Int} {m : Int} (h : ¬ (leavesB L = true ∧ 0 ≤ m ∧ m ≤ L.length)) : tgrowth L m = [] := if_neg h
theorem tgrowth_yes {L : List Int} {m : Nat} (h : leavesB L = true) (hm : m ≤ L.length) : tgrowth L (m : Int) = rts pr (lf L) (grow m L.length) := by
  unfold tgrowth grow; rw [if_pos ⟨h, by omega, by omega⟩, rts_app]; rfl
theorem tgrowth_len (L : List Int) (m : Int) : (tgrowth L m).length ≤ 9 := by
  by_cases h : leavesB L = true ∧ 0 ≤ m ∧ m ≤ L.length
  · obtain ⟨h16, _⟩ := leavesB_len h.1
    obtain ⟨k, rfl⟩ : ∃ k : Nat, m = (k : Int) := ⟨m.toNat, by omega⟩
    rw [tgrowth_yes h.1 (by omega)]
    unfold rts; rw [List.length_map]
    exact (grow_len k L.length h16 (by omega)).1
  · rw [tgrowth_no h]; simp
theorem tgrowth_digs (L : List Int) (m : Int) : digs (tgrowth L m) = true := by
  by_cases h : leavesB L = true ∧ 0 ≤ m ∧ m ≤ L.length
  · obtain ⟨h16, hd⟩ := leavesB_len h.1
    obtain ⟨k, rfl⟩ : ∃ k : Nat, m = (k : Int) := ⟨m.toNat, by omega⟩
    rw [tgrowth_yes h.1 (by omega)]
    exact rts_digs hd _
  · rw [tgrowth_no h]; rfl
set_option maxHeartbeats 4000000 in
theorem iTreeGrowth_any (v : Value) (L : List Int) (m : Int) (w : World) (h : RV w w.heap.size v (L.map (Value.int .i64))) (hn : L.length ≤ 1048576) :
    Calls Try.prog 14 #[v, .int .i64 m] w (NewRow w 3 ((tgrowth L m).map (Value.int .i64))) := by
  have rr := h
  obtain ⟨A, cap, rfl, hl, hm, hc⟩ := h
  rw [List.length_map] at rr hl ⊢
  clear hc
  cases hb : leavesB L
  · have HP : Hid (tgrowth L m = []) := tgrowth_no fun hh => by rw [hb] at hh; cases hh.1
    rw [HP.out]
    go_enter Try.func14, Try.ntmps14
    (go_wp2_with fail; (with_reducible refine (areLeaves_b _ L _ _ false rr hn hb).mono ?_); rintro _ _ ⟨rfl, rfl⟩)
    go_wp2_with fail
    go_ret
    exact newrow_of (own_nil _ _ _) (Below.refl _ _)
  · obtain ⟨h16, hd⟩ := leavesB_len hb
    cases hin : inB m 0 (L.length : Int)
    · have HP : Hid (tgrowth L m = []) := tgrowth_no fun hh => by rcases inB_false.1 hin with h1 | h1 <;> omega
      rw [HP.out]
      go_enter Try.func14, Try.ntmps14
      (go_wp2_with fail; (with_reducible refine (areLeaves_b _ L _ _ true rr hn hb).mono ?_); rintro _ _ ⟨rfl, rfl⟩)
      (go_wp2_with fail; (with_reducible refine (within_b m 0 (L.length : Int) false _ hin).mono ?_); rintro _ _ ⟨rfl, rfl⟩)
      go_wp2_with fail
      go_ret
      exact newrow_of (own_nil _ _ _) (Below.refl _ _)
    · obtain ⟨i0, i1⟩ := inB_true.1 hin
      obtain ⟨k, rfl⟩ : ∃ k : Nat, m = (k : Int) := ⟨m.toNat, by omega⟩
      have HP := hid' (tgrowth_yes hb (m := k) (by omega))
      rw [HP.out]
      obtain ⟨i0', hi, hz0, hz1, hz2⟩ := info_parts infoTree
      have hk16 : k ≤ 16 := by omega
      have l1 := (tr_all 0 k (by omega) hk16).1
      have l2 := (tr_all k L.length hk16 h16).1
      clear HP
      go_enter Try.func14, Try.ntmps14
      (go_wp2_with fail; (with_reducible refine (areLeaves_b _ L _ _ true rr hn hb).mono ?_); rintro _ _ ⟨rfl, rfl⟩)
      (go_wp2_with fail; (with_reducible refine (within_b (k : Int) 0 (L.length : Int) true _ hin).mono ?_); rintro _ _ ⟨rfl, rfl⟩)
      (go_wp2_with fail; (with_reducible refine (treesFrom_0 k _ hk16).mono ?_))
      rintro _ w1 ⟨v1, rfl, o1, b1⟩
      (go_wp2_with fail; (with_reducible refine (treesFrom_any k L.length _ hk16 h16).mono ?_))
      rintro _ w2 ⟨v2, rfl, o2, b2⟩
      replace o1 := OT.next o1 b2 (Nat.le_refl _)
      have bb2 := bstep b1 b2
      go_wp2_with (at_builtin; refine wpList_appT _ rfl _ _ rfl w.heap.size w1.heap.size i0' hi hz0 hz1 hz2 _ _ (tr 0 k) (tr k L.length) rfl o1 rfl o2 (by omega) bb2.size ?_; intro v3 w3 o3 b3)
      have bb3 := bb2.trans b3
      have o3' : OT w3 w.heap.size v3 (grow k L.length) := o3
      (with_reducible refine (roots_any v3 _ (grow k L.length) L w.heap.size w.heap.size w3 o3' (rr.below bb3 (Nat.le_refl _)) bb3.size hd h16 (fun j t hj => ?_) (by unfold grow; rw [List.length_append]; omega)).mono ?_)
      · unfold grow at hj
        rcases List.mem_append.1 (List.mem_of_getElem? hj) with h1 | h1
        · exact Nat.le_trans (tr_in 0 k (by omega) hk16 h1) (by omega)
        · exact tr_in k L.length hk16 h16 h1
      rintro _ w4 ⟨vr, rfl, hr, b4⟩
      go_wp2_with fail
      go_ret
      exact ⟨_, rfl, hr.wide bb3.size (Nat.le_refl _), bstep bb3 b4⟩
set_option maxHeartbeats 4000000 in
theorem sTreeGrowth_any (v : Value) (L : List Int) (m : Int) (w : World) (h : RV w w.heap.size v (L.map (Value.int .i64))) (hn : L.length ≤ 1048576) :
    Calls Try.prog 12 #[v, .int .i64 m] w (NewRow w 3 ((tgrowth L m).map (Value.int .i64))) := by
  have rr := h
  obtain ⟨A, cap, rfl, hl, hm, hc⟩ := h
  rw [List.length_map] at rr hl ⊢
  clear hc
  cases hb : leavesB L
  · have HP : Hid (tgrowth L m = []) := tgrowth_no fun hh => by rw [hb] at hh; cases hh.1
    rw [HP.out]
    go_enter Try.func12, Try.ntmps12
    (go_wp2_with fail; (with_reducible refine (l2Leaves_b _ L _ _ false rr hn hb).mono ?_); rintro _ _ ⟨rfl, rfl⟩)
    go_wp2_with fail
    go_ret
    exact newrow_of (own_empty (Nat.le_refl _)) (bnew _ _)
  · obtain ⟨h16, hd⟩ := leavesB_len hb
    cases hin : inB m 0 (L.length : Int)
    · have HP : Hid (tgrowth L m = []) := tgrowth_no fun hh => by rcases inB_false.1 hin with h1 | h1 <;> omega
      rw [HP.out]
      go_enter Try.func12, Try.ntmps12
      (go_wp2_with fail; (with_reducible refine (l2Leaves_b _ L _ _ true rr hn hb).mono ?_); rintro _ _ ⟨rfl, rfl⟩)
      (go_wp2_with fail; (with_reducible refine (l6In_b m 0 (L.length : Int) false _ hin).mono ?_); rintro _ _ ⟨rfl, rfl⟩)
      go_wp2_with fail
      go_ret
      exact newrow_of (own_empty (Nat.le_refl _)) (bnew _ _)
    · obtain ⟨i0, i1⟩ := inB_true.1 hin
      obtain ⟨k, rfl⟩ : ∃ k : Nat, m = (k : Int) := ⟨m.toNat, by omega⟩
      have hkl : k ≤ L.length := by omega
      have hk16 : k ≤ 16 := by omega
      have HP : Hid (tgrowth L (k : Int) = rts pr (lf (L.take k)) (tr 0 (L.take k).length) ++ rts pr (lf L) (tr k L.length)) := by
        unfold Hid
        rw [tgrowth_yes hb hkl]
        unfold grow
        rw [rts_app, ← peaks_take k hkl h16]; rfl
      rw [HP.out]
      obtain ⟨j0, ji, jz0, jz1, jz2⟩ := info_parts infoInt
      have htl : (L.take k).length = k := by rw [List.length_take]; omega
      have l1 : ((rts pr (lf (L.take k)) (tr 0 (L.take k).length)).map (Value.int .i64)).length ≤ 16 := by rw [htl]; unfold rts; rw [List.length_map, List.length_map]; exact (tr_all 0 k (by omega) hk16).1
      have l2 : ((rts pr (lf L) (tr k L.length)).map (Value.int .i64)).length ≤ 16 := by unfold rts; rw [List.length_map, List.length_map]; exact (tr_all k L.length hk16 h16).1
      have R1 := rv_take (k := k) rr (by rw [List.length_map]; omega)
      rw [← List.map_take] at R1
      have kc : (k : Int) ≤ (cap : Int) := by omega
      have L1 := hid' l1
      have L2 := hid' l2
      have HT := hid' htl
      clear HP l1 l2 htl
      go_enter Try.func12, Try.ntmps12
      (go_wp2_with fail; (with_reducible refine (l2Leaves_b _ L _ _ true rr hn hb).mono ?_); rintro _ _ ⟨rfl, rfl⟩)
      (go_wp2_with fail; (with_reducible refine (l6In_b (k : Int) 0 (L.length : Int) true _ hin).mono ?_); rintro _ _ ⟨rfl, rfl⟩)
      (go_wp2_with fail; (with_reducible refine (l2Cover_0 _ (L.take k) _ R1 (digs_take hd k) (by rw [HT.out]; exact hk16)).mono ?_))
      rintro _ w1 ⟨v1, rfl, r1, b1⟩
      (go_wp2_with fail; (with_reducible refine (l2Cover_any _ L w.heap.size k _ (rr.below b1 (Nat.le_refl _)) b1.size hd h16 hk16).mono ?_))
      rintro _ w2 ⟨v2, rfl, r2, b2⟩
      replace r1 := r1.next b2 (Nat.le_refl _)
      have bb2 := bstep b1 b2
      have o1 := (r1.wide (Nat.le_refl _) b2.size).1
      go_wp2_with (at_builtin; refine wpList_append_rv _ rfl _ _ 22 rfl w.heap.size 3 j0 (.int .i64 0) 8 Try.underlying22 ji jz0 jz1 jz2 rfl _ _ rfl o1 _ rfl _ _ r2.rv (one_ints _) (by have q1 := L1.out; have q2 := L2.out; omega) (by decide) bb2.size ?_; intro v3 w3 o3 b3)
      go_ret
      exact newrow_of (by rw [List.map_append]; exact o3) (bb2.trans b3)
end Go.Proofs.Ytpbdehncmincaaa
