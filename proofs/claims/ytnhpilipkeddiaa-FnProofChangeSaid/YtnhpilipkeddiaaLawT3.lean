/- The walks of laws on drawn checks of trees. -/
import Derived.Test.YtnhpilipkeddiaaLawT2
import Derived.Test.YtnhpilipkeddiaaDrawT2
namespace Go.Proofs.Ytnhpilipkeddiaa
set_option linter.unusedVariables false
open Go.RowKit
/-- an operation whose guard lets it run is met as one without a guard -/
theorem wpList_unguard {P : Program} {ops : Array Oper} {Q : Exit → Act → World → Prop} {rest : List Oper} {a : Act} {w : World} {o : Oper} (hw : Region.wanted o (yielded ops a.tmps) = true) (h : wpList P ops Q ({ o with guard := none } :: rest) a w) : wpList P ops Q (o :: rest) a w := by
  unfold wpList at h ⊢
  rw [if_pos (show Region.wanted { o with guard := none } (yielded ops a.tmps) = true from rfl)] at h
  rw [if_pos hw]
  exact h
theorem tcheck_parts {d n i leaf : Int} {l : List Int} (h : tcheck d n i leaf l = true) : ∃ N m : Nat, n = (N : Int) ∧ i = (m : Int) ∧ m < N ∧ N ≤ 16 ∧ (0 ≤ leaf ∧ leaf ≤ 990) ∧ digs l = true ∧ l.length = proofLen N m ∧ checkVal pr (N : Int) N m leaf l 0 = d := by
  unfold tcheck at h
  simp only [Bool.and_eq_true, decide_eq_true_iff, beq_iff_eq] at h
  obtain ⟨⟨⟨⟨⟨h1, h2⟩, h3⟩, h4⟩, h5⟩, h6⟩ := h
  obtain ⟨a0, a1⟩ := inB_true.1 h1
  obtain ⟨b0, b1⟩ := inB_true.1 h2
  obtain ⟨N, rfl⟩ : ∃ N : Nat, n = (N : Int) := ⟨n.toNat, by omega⟩
  obtain ⟨m, rfl⟩ : ∃ m : Nat, i = (m : Int) := ⟨i.toNat, by omega⟩
  exact ⟨N, m, rfl, rfl, by omega, by omega, digB_true.1 h3, h4, h5, h6⟩
theorem tcheck_len2 {d n i leaf : Int} {l l' : List Int} (h : tcheck d n i leaf l = true) (hl : l'.length ≠ l.length) : tcheck d n i leaf l' = false := by
  obtain ⟨N, m, rfl, rfl, _, _, _, _, h5, _⟩ := tcheck_parts h
  exact tcheck_len (by rw [← h5]; exact hl)
theorem tcheck_six {d n i leaf : Int} {l : List Int} (h : tcheck d n i leaf l = true) : l.length ≤ 6 ∧ (l.length = 0 → n = 1) := by
  obtain ⟨N, m, rfl, rfl, h1, h2, _, _, h5, _⟩ := tcheck_parts h
  obtain ⟨p1, p2⟩ := proofLen_le N m h2 h1
  exact ⟨by omega, fun h0 => by have := p2 (by omega); omega⟩
theorem tcheck_changed {d n i leaf z : Int} {l : List Int} {k : Nat} (h : tcheck d n i leaf l = true) (hk : k < l.length) (hz : 0 ≤ z ∧ z ≤ 990) (hn : z ≠ lf l k) : tcheck d n i leaf (l.set k z) = false := by
  obtain ⟨N, m, rfl, rfl, h1, h2, h3, h4, h5, h6⟩ := tcheck_parts h
  have hfr : tfront (N : Int) (m : Int) leaf (l.set k z) = true := by
    unfold tfront
    rw [inB_true.2 ⟨by omega, by omega⟩, inB_true.2 ⟨by omega, by omega⟩, digB_true.2 h3, digs_set h4 hz]; rfl
  rw [tcheck_yes hfr (by rw [List.length_set]; exact h5), beq_eq_false_iff_ne]
  intro e
  exact check_proof N m h2 h1 h4 h5 hk ⟨by omega, by omega⟩ h3 hz hn (h6.trans e.symm)
theorem tcheck_digs {d n i leaf : Int} {l : List Int} (h : tcheck d n i leaf l = true) : digs l = true := by
  obtain ⟨N, m, _, _, _, _, _, h4, _⟩ := tcheck_parts h
  exact h4
set_option maxHeartbeats 8000000 in
set_option maxRecDepth 100000 in
theorem walk_FnProofLength (v0 : Value) (L0 : List Int) (w : World) (r0 : RV w w.heap.size v0 (L0.map (Value.int .u8))) (b0 : ∀ n ∈ L0, (Lit.int .u8 n).wf = true) :
    Calls Try.prog 8 #[v0] w fun e w' => e = .returned (.bool true) ∧ Below w.heap.size w w' := by
  have rr0 := r0
  obtain ⟨A0, cap0, rfl, hl0, hm0, hc0⟩ := r0
  rw [List.length_map] at rr0 hl0 ⊢
  clear hc0
  unfold maxLen at hm0
  rcases small_case L0.length with hb | hb0
  · go_enter Try.func8, Try.ntmps8
    go_wp2_with fail
    go_ret
    exact ⟨rfl, Below.refl _ _⟩
  · go_enter Try.func8, Try.ntmps8
    (go_wp2_with fail; (with_reducible refine (DrawTreeCheck_any _ L0 _ rr0 b0).mono ?_))
    rintro _ w1 ⟨d, n, i, leaf, v, P, rfl, hP, rP, bb⟩
    have FL := flat_row2 rP
    have s1 := bb.size
    obtain ⟨AP, cP, rfl, hPl, hPm, hPc⟩ := row_intsC rP
    have rv := RV.mono (B' := w1.heap.size) rP.rv (by omega)
    obtain ⟨ok, hok⟩ : ∃ ok, tcheck d n i leaf P = ok := ⟨_, rfl⟩
    have HOK := hid' hok
    clear hok hPc
    (go_wp2_with fail; (with_reducible refine (iTreeCheck_b d n i leaf _ P _ ok rv FL (by omega) HOK.out).mono ?_))
    rintro _ w2 ⟨rfl, b2⟩
    have s2 := b2.size
    replace rv := RV.mono (B' := w2.heap.size) (rv.below b2 (by omega)) (by omega)
    replace bb := bstep bb b2
    clear b2
    (go_wp2_with fail; (with_reducible refine (sTreeCheck_b d n i leaf _ P _ ok rv (by omega) HOK.out).mono ?_); rintro _ _ ⟨rfl, rfl⟩)
    cases ok
    · (go_wp2_with fail; (with_reducible refine (sTreeCheck_b d n i leaf _ P _ false rv (by omega) HOK.out).mono ?_); rintro _ _ ⟨rfl, rfl⟩)
      go_wp2_with fail
      go_ret
      exact ⟨rfl, bb⟩
    · obtain ⟨h6, hone⟩ := tcheck_six HOK.out
      have hdg := tcheck_digs HOK.out
      have T1 := hid' (tcheck_len2 HOK.out (l' := P ++ [0]) (by simp))
      obtain ⟨j0, ji, jz0, jz1, jz2⟩ := info_parts infoInt
      have rv' : RV (w2.alloc (.cells #[] 3)) w2.heap.size (.slice AP P.length cP) (P.map (Value.int .i64)) := rv.below (bnew w2 _) (Nat.le_refl _)
      have hk6 : (P.length : Int) ≤ 6 := by omega
      clear hone hdg
      go_wp2_with (at_builtin; refine wpList_unguard (by simp [Region.wanted, yielded]) ?_; first | (refine wpList_append_rv _ rfl _ _ 22 rfl w2.heap.size 3 j0 (.int .i64 0) 8 Try.underlying22 ji jz0 jz1 jz2 rfl _ _ rfl (own_empty (Nat.le_refl w2.heap.size)) _ rfl _ _ rv' (one_ints _) (by rw [List.length_map]; simp; omega) (by decide) (by simp) ?_; intro v5 w5 o5 b5; simp only [List.nil_append] at o5) | (refine wpList_push _ rfl _ _ 22 rfl w2.heap.size 3 j0 (.int .i64 0) 8 Try.underlying22 ji jz0 jz1 jz2 rfl _ _ rfl o5 _ rfl rfl (by rw [List.length_map]; omega) (by decide) (by have := b5.size; simp at this; omega) ?_; intro v6 w6 o6 b6))
      have c6 : Below w2.heap.size w2 w6 := (((Below.refl _ _).alloc (Nat.le_refl _) _).trans b5).trans b6
      have o6' : OW w6 w2.heap.size 3 v6 ((P ++ [0]).map (Value.int .i64)) := by rw [List.map_append]; exact o6
      have FL6 : Flat v6 := flat_row2 (Row.of o6')
      have s6 := c6.size
      (with_reducible refine (iTreeCheck_b d n i leaf v6 (P ++ [0]) _ false o6'.rv FL6 (by simp; omega) T1.out).mono ?_)
      rintro _ w7 ⟨rfl, b7⟩
      have s7 := b7.size
      have bb7 := bstep (bstep bb c6) b7
      have rv7 := RV.mono (B' := w7.heap.size) ((rv.below c6 (Nat.le_refl _)).below b7 (by omega)) (by omega)
      by_cases h0 : P.length = 0
      · have e0 : ((P.length : Int) == 0) = true := beq_iff_eq.2 (by omega)
        clear h0
        go_wp2_with fail
        go_ret
        exact ⟨rfl, bb7⟩
      · have e0 : ((P.length : Int) == 0) = false := beq_eq_false_iff_ne.2 (by omega)
        obtain ⟨q, hq⟩ : ∃ q : Nat, P.length = q + 1 := ⟨P.length - 1, by omega⟩
        have e1 : (P.length : Int) - 1 = (q : Int) := by omega
        have hqc : (q : Int) ≤ (cP : Int) := by omega
        have T2 := hid' (tcheck_len2 HOK.out (l' := P.take q) (by rw [List.length_take]; omega))
        have rq := rv_take (k := q) rv7 (by rw [List.length_map]; omega)
        rw [← List.map_take] at rq
        have FL7 : Flat (.slice AP q cP) := by
          rcases FL with hh | ⟨b, off, n, c, hh⟩
          · simp only [Value.slice.injEq] at hh; omega
          · simp only [Value.slice.injEq] at hh; obtain ⟨rfl, _, _⟩ := hh; exact .inr ⟨_, _, _, _, rfl⟩
        have hql : (P.take q).length ≤ 1048576 := by rw [List.length_take]; omega
        have HQ := hid' hq
        clear h0 hq
        (go_wp2_with fail; (with_reducible refine (iTreeCheck_b d n i leaf _ (P.take q) _ false rq FL7 hql T2.out).mono ?_))
        rintro _ w8 ⟨rfl, b8⟩
        go_wp2_with fail
        go_ret
        exact ⟨rfl, bstep bb7 b8⟩
set_option maxHeartbeats 8000000 in
set_option maxRecDepth 100000 in
theorem walk_FnProofChange (v0 : Value) (L0 : List Int) (v1 : Value) (L1 : List Int) (w : World) (r0 : RV w w.heap.size v0 (L0.map (Value.int .u8))) (b0 : ∀ n ∈ L0, (Lit.int .u8 n).wf = true) (r1 : RV w w.heap.size v1 (L1.map (Value.int .u8))) (_b1 : ∀ n ∈ L1, (Lit.int .u8 n).wf = true) :
    Calls Try.prog 9 #[v0, v1] w fun e w' => e = .returned (.bool true) ∧ Below w.heap.size w w' := by
  have rr0 := r0
  obtain ⟨A0, cap0, rfl, hl0, hm0, hc0⟩ := r0
  obtain ⟨A1, cap1, rfl, hl1, hm1, hc1⟩ := r1
  rw [List.length_map] at rr0 hl0 hl1 ⊢
  rw [List.length_map]
  clear hc0 hc1
  unfold maxLen at hm0 hm1
  obtain ⟨M, hM⟩ : ∃ M, M = L1.length := ⟨_, rfl⟩
  rw [← hM] at hl1 ⊢
  clear hM
  rcases small_cases L0.length M with hb | hb | ⟨hb0, hb1⟩
  · go_enter Try.func9, Try.ntmps9
    go_wp2_with fail
    go_ret
    exact ⟨rfl, Below.refl _ _⟩
  · go_enter Try.func9, Try.ntmps9
    go_wp2_with fail
    go_ret
    exact ⟨rfl, Below.refl _ _⟩
  · go_enter Try.func9, Try.ntmps9
    (go_wp2_with fail; (with_reducible refine (DrawTreeCheck_any _ L0 _ rr0 b0).mono ?_))
    rintro _ w1 ⟨d, n, i, leaf, v, P, rfl, hP, rP, bb⟩
    have FL := flat_row2 rP
    have s1 := bb.size
    obtain ⟨AP, cP, rfl, hPl, hPm, hPc⟩ := row_intsC rP
    have rv := RV.mono (B' := w1.heap.size) rP.rv (by omega)
    obtain ⟨ok, hok⟩ : ∃ ok, tcheck d n i leaf P = ok := ⟨_, rfl⟩
    have HOK := hid' hok
    clear hok hPc
    (go_wp2_with fail; (with_reducible refine (iTreeCheck_b d n i leaf _ P _ ok rv FL (by omega) HOK.out).mono ?_))
    rintro _ w2 ⟨rfl, b2⟩
    have s2 := b2.size
    replace rv := RV.mono (B' := w2.heap.size) (rv.below b2 (by omega)) (by omega)
    replace bb := bstep bb b2
    clear b2
    (go_wp2_with fail; (with_reducible refine (sTreeCheck_b d n i leaf _ P _ ok rv (by omega) HOK.out).mono ?_); rintro _ _ ⟨rfl, rfl⟩)
    cases ok
    · (go_wp2_with fail; (with_reducible refine (sTreeCheck_b d n i leaf _ P _ false rv (by omega) HOK.out).mono ?_); rintro _ _ ⟨rfl, rfl⟩)
      go_wp2_with fail
      go_ret
      exact ⟨rfl, bb⟩
    · obtain ⟨h6, hone⟩ := tcheck_six HOK.out
      have hdg := tcheck_digs HOK.out
      by_cases h0 : P.length = 0
      · have e0 : ((P.length : Int) == 0) = true := beq_iff_eq.2 (by omega)
        have hn1 := hone h0
        have e1 : (n == 1) = true := beq_iff_eq.2 hn1
        clear h0 hn1 hone
        go_wp2_with fail
        go_ret
        exact ⟨rfl, bb⟩
      · have e0 : ((P.length : Int) == 0) = false := beq_eq_false_iff_ne.2 (by omega)
        obtain ⟨k, hkn, k1, k2⟩ := idx_of M P.length (by omega)
        obtain ⟨A', c', hv', _, _, hPc⟩ := rv_intsC rv
        simp only [Value.slice.injEq] at hv'
        obtain ⟨rfl, _, rfl⟩ := hv'
        obtain ⟨b, off, rfl, hbB, hcell⟩ := hPc (by omega)
        obtain ⟨c, hc⟩ : ∃ c, P[k]? = some c := ⟨P[k], List.getElem?_eq_getElem hkn⟩
        have hlc := lf_get hc
        have hcd := hcell k c hc
        have hc9 := digB_true.1 (digs_get hc hdg)
        have hzd := other_dig c (L0.length : Int) hc9.1
        have hzn := other_ne c (L0.length : Int) hc9 (by omega)
        have hno := tcheck_changed HOK.out hkn hzd (by rw [hlc]; exact hzn)
        obtain ⟨z, hz⟩ : ∃ z, other c (L0.length : Int) = z := ⟨_, rfl⟩
        rw [hz] at hzd hzn hno
        have HZ := hid' hz
        have HX := hid' hc
        have HNO := hid' hno
        have zd1 : (z == c) = false := beq_eq_false_iff_ne.2 hzn
        have kc1 : (0 : Int) ≤ (k : Int) := by omega
        have kc2 : (k : Int) < (P.length : Int) := by omega
        obtain ⟨j0, ji, jz0, jz1, jz2⟩ := info_parts infoInt
        have rv' : RV (w2.alloc (.cells #[] 3)) w2.heap.size (.slice (some ⟨b, off, none⟩) P.length cP) (P.map (Value.int .i64)) := rv.below (bnew w2 _) (Nat.le_refl _)
        clear h0 hone hz hc hcell hPc hzn rP hlc hno FL
        go_wp2_with (at_builtin; refine wpList_append_rv _ rfl _ _ 22 rfl w2.heap.size 3 j0 (.int .i64 0) 8 Try.underlying22 ji jz0 jz1 jz2 rfl _ _ rfl (own_empty (Nat.le_refl w2.heap.size)) _ rfl _ _ rv' (one_ints _) (by rw [List.length_map]; simp; omega) (by decide) (by simp) ?_; intro v4 w4 o4 b4; simp only [List.nil_append] at o4; obtain ⟨g, cg, rfl, hcg, l1, l2, lb, l3⟩ := own_atC (con := Value.int .i64) (D := P) o4 HX.out; obtain ⟨l4, l5⟩ := l3 z; have L4 := hid' l4; have L5 := hid' l5; clear l3 l4 l5 o4)
        (with_reducible refine (other_anyC c (L0.length : Int) _ hc9.1 hc9.2 (by omega) (by omega)).mono ?_)
        rintro _ _ ⟨rfl, rfl⟩
        rw [HZ.out]
        have c4 : Below w2.heap.size w2 (w4.setCell ⟨g, k, none⟩ (.int .i64 z)) := (((Below.refl _ _).alloc (Nat.le_refl _) _).trans b4).trans L5.out
        obtain ⟨g', cg', hvg, _, n1, _, _, _⟩ := own_atC (con := Value.int .i64) (D := P.set k z) L4.out (k := k) (x := z) (by rw [List.getElem?_set_self hkn])
        simp only [Value.slice.injEq, Option.some.injEq, Addr.mk.injEq] at hvg
        obtain ⟨⟨rfl, _, _⟩, hq, rfl⟩ := hvg
        clear hq
        have n2 : (w4.setCell ⟨g, k, none⟩ (.int .i64 z)).cell? ⟨b, off + k, none⟩ = some (.int .i64 c) := (c4.cell (p := ⟨b, off + k, none⟩) hbB).trans hcd
        have hgs : g < (w4.setCell ⟨g, k, none⟩ (.int .i64 z)).heap.size := (World.ownsRow.lt L4.out g (by rfl)).2
        have S0 : (fun W : World => W.cell? ⟨g, k, none⟩ = some (.int .i64 z) ∧ W.cell? ⟨b, off + k, none⟩ = some (.int .i64 c) ∧ LS (w4.setCell ⟨g, k, none⟩ (.int .i64 z)) (.slice (some ⟨g, 0, none⟩) P.length cg) ((P.set k z).map (Value.int .i64)) ⟨g, k, none⟩ ⟨b, off + k, none⟩ W) (w4.setCell ⟨g, k, none⟩ (.int .i64 z)).drew := ⟨n1, n2, L4.out.rv, (Below.refl _ _).drew, hgs, Nat.lt_of_lt_of_le hbB c4.size⟩
        have I := hid' (fun (W : World) (r : W.cell? ⟨g, k, none⟩ = some (.int .i64 z) ∧ W.cell? ⟨b, off + k, none⟩ = some (.int .i64 c) ∧ LS (w4.setCell ⟨g, k, none⟩ (.int .i64 z)) (.slice (some ⟨g, 0, none⟩) P.length cg) ((P.set k z).map (Value.int .i64)) ⟨g, k, none⟩ ⟨b, off + k, none⟩ W) => iTreeCheck_b d n i leaf (.slice (some ⟨g, 0, none⟩) P.length cg) (P.set k z) W false (ls_rv r) (.inr ⟨_, _, _, _, rfl⟩) (by rw [List.length_set]; omega) HNO.out)
        have bb4 := bstep bb c4
        clear n1 n2
        go_wp2_with fail
        go_region_held3 (fun W => W.cell? ⟨g, k, none⟩ = some (.int .i64 z) ∧ W.cell? ⟨b, off + k, none⟩ = some (.int .i64 c) ∧ LS (w4.setCell ⟨g, k, none⟩ (.int .i64 z)) (.slice (some ⟨g, 0, none⟩) P.length cg) ((P.set k z).map (Value.int .i64)) ⟨g, k, none⟩ ⟨b, off + k, none⟩ W)
          (first | (exact ls_step (by assumption) b8) | (exact S0) | assumption)
          ((first | (go_at_call 12; (with_reducible refine (I.out _ (by assumption)).mono ?_); rintro _ w8 ⟨rfl, b8⟩)))
        go_wp2_with fail
        go_ret
        exact ⟨rfl, bstep bb4 (ls_bel (by assumption))⟩
end Go.Proofs.Ytnhpilipkeddiaa
