/- The walks of TreeCheck. -/
import Derived.Test.YtnhpilipkeddiaaProof2
namespace Go.Proofs.Ytnhpilipkeddiaa
set_option linter.unusedVariables false
open Go.RowKit

theorem and_words {m s : Nat} (hm : m ≤ 16) (hs : s ≤ 16) : bits .and .i64 (m : Int) (s : Int) = ((m &&& s : Nat) : Int) := by
  have hx : m &&& s ≤ m := Nat.and_le_left
  show IntKind.i64.wrap ((BitVec.ofInt 64 (m : Int) &&& BitVec.ofInt 64 (s : Int)).toNat : Int) = _
  rw [BitVec.toNat_and, BitVec.ofInt_natCast, BitVec.ofInt_natCast, BitVec.toNat_ofNat, BitVec.toNat_ofNat, Nat.mod_eq_of_lt (by omega), Nat.mod_eq_of_lt (by omega), IntKind.wrap_i64]
  omega
theorem clone_any (v : Value) (L : List Int) (B : Nat) (w : World) (h : RV w B v (L.map (Value.int .i64))) (hB : B ≤ w.heap.size) (hn : L.length ≤ 1048576) :
    Calls Try.prog 35 #[v] w (NewRow w 3 (L.map (Value.int .i64))) := by
  have rr := h
  obtain ⟨A, cap, rfl, hl, hm, hc⟩ := h
  rw [List.length_map] at rr hl ⊢
  clear hc
  obtain ⟨i0, hi, hz0, hz1, hz2⟩ := info_parts infoInt
  go_enter Try.func35, Try.ntmps35
  go_wp2_with (at_make; refine wpList_make_own _ rfl _ _ 22 rfl w.heap.size 3 i0 (.int .i64 0) 1 Try.underlying22 hi hz0 hz1 _ _ _ L.length rfl rfl rfl ?b2 ?b3 (Nat.le_refl _) ?_)
  case b2 => rw [hz2]; omega
  case b3 => unfold maxLen; omega
  intro w0 hown0 hgrow0
  have b0 : Below w.heap.size w w0 := (Below.refl _ _).grown hgrow0 (Nat.le_refl _) (fun k h => by cases h)
  have r0 := rr.below b0 hB
  have o0 : OW w0 w.heap.size 3 (.slice (some ⟨w.heap.size, 0, none⟩) 0 L.length) [] := OW.len hown0
  go_wp2_with (at_builtin; refine wpList_append_rv _ rfl _ _ 22 rfl w.heap.size 3 i0 (.int .i64 0) 8 Try.underlying22 hi hz0 hz1 hz2 rfl _ _ rfl o0 _ rfl _ _ r0 (one_ints _) (by rw [List.length_map]; simp; omega) (by decide) b0.size ?_; intro v5 w5 o5 b5; simp only [List.nil_append] at o5)
  go_ret
  exact newrow_of o5 (b0.trans b5)
theorem climb_bd {l : List Int} {leaf : Int} (hd : digs l = true) (hl : digB leaf = true) (i : Nat) : ∀ j, digB (climb pr i (lf l) leaf j) = true
  | 0 => hl
  | j + 1 => by unfold climb; split <;> exact pr_dig _ _
theorem rv_intsC' {w : World} {B : Nat} {v : Value} {L : List Int} (h : RV w B v (L.map (Value.int .i64))) :
    ∃ A cap, v = .slice A L.length cap ∧ L.length ≤ cap ∧ cap ≤ maxLen ∧ (0 < L.length → ∃ b off, A = some ⟨b, off, none⟩ ∧ b < B ∧ ∀ i x, L[i]? = some x → w.cell? ⟨b, off + i, none⟩ = some (.int .i64 x)) := by
  obtain ⟨A, cap, hv, hl, hm, hc⟩ := h
  rw [List.length_map] at hv hl hc
  refine ⟨A, cap, hv, hl, hm, fun h0 => ?_⟩
  obtain ⟨b, off, hA, hb, hcell⟩ := hc h0
  exact ⟨b, off, hA, hb, fun i x hx => hcell i _ (by rw [List.getElem?_map, hx]; rfl)⟩
/-- the arguments of a check are in order -/
def tfront (n i leaf : Int) (l : List Int) : Bool := inB n 1 16 && inB i 0 (n - 1) && digB leaf && digs l
theorem tcheck_no {d n i leaf : Int} {l : List Int} (h : tfront n i leaf l = false) : tcheck d n i leaf l = false := by
  unfold tcheck; unfold tfront at h; rw [h]; rfl
theorem tcheck_len {d leaf : Int} {n i : Nat} {l : List Int} (h : l.length ≠ proofLen n i) : tcheck d n i leaf l = false := by
  unfold tcheck
  rw [show decide (l.length = proofLen (n : Int).toNat (i : Int).toNat) = false from decide_eq_false h, Bool.and_false, Bool.false_and]
theorem tcheck_yes {d leaf : Int} {n i : Nat} {l : List Int} (h : tfront n i leaf l = true) (hl : l.length = proofLen n i) : tcheck d n i leaf l = (checkVal pr (n : Int) n i leaf l 0 == d) := by
  unfold tcheck; unfold tfront at h
  rw [h, show decide (l.length = proofLen (n : Int).toNat (i : Int).toNat) = true from decide_eq_true hl]; rfl
theorem lf_drop0 {l : List Int} {j : Nat} (h : j < l.length) : (l.drop j)[0]? = some (lf l j) := by
  rw [List.getElem?_drop, Nat.add_zero]
  unfold lf; rw [List.getD_eq_getElem?_getD, List.getElem?_eq_getElem h]; rfl
/-- a slice of a plain row -/
def Flat (v : Value) : Prop := v = .slice none 0 0 ∨ ∃ b off n c, v = .slice (some ⟨b, off, none⟩) n c
/-- a slice's rest from k on -/
theorem rv_rest {w : World} {B b off cap n k : Nat} {L : List Int} (h : RV w B (.slice (some ⟨b, off, none⟩) n cap) (L.map (Value.int .i64))) (hk : k ≤ L.length) : RV w B (.slice (some ⟨b, off + k, none⟩) (n - k) (cap - k)) ((L.drop k).map (Value.int .i64)) := by
  have R1 := rv_drop (k := k) h (by rw [List.length_map]; omega) (rfl : cap - k = cap - k)
  rwa [← List.map_drop] at R1
set_option maxHeartbeats 8000000 in
set_option maxRecDepth 100000 in
theorem iTreeCheck_b (d n i leaf : Int) (v : Value) (l : List Int) (w : World) (b : Bool) (h : RV w w.heap.size v (l.map (Value.int .i64))) (hF : Flat v) (hn : l.length ≤ 1048576) (hb : tcheck d n i leaf l = b) :
    Calls Try.prog 12 #[.int .i64 d, .int .i64 n, .int .i64 i, .int .i64 leaf, v] w fun e w' => e = .returned (.bool b) ∧ Below w.heap.size w w' := by
  have rr := h
  obtain ⟨A, cap, rfl, hl, hm, hc⟩ := h
  rw [List.length_map] at rr hl hF ⊢
  clear hc
  have HB := hid' hb
  clear hb
  cases h1 : inB n 1 16
  · have HF : Hid (b = false) := HB.out.symm.trans (tcheck_no (by unfold tfront; rw [h1]; rfl))
    go_enter Try.func12, Try.ntmps12
    (go_wp2_with fail; (with_reducible refine (within_b n 1 16 false _ h1).mono ?_); rintro _ _ ⟨rfl, rfl⟩)
    go_wp2_with fail
    go_ret
    exact ⟨retB HF.out.symm, Below.refl _ _⟩
  · obtain ⟨n0, n1⟩ := inB_true.1 h1
    cases h2 : inB i 0 (n - 1)
    · have HF : Hid (b = false) := HB.out.symm.trans (tcheck_no (by unfold tfront; rw [h1, h2]; rfl))
      go_enter Try.func12, Try.ntmps12
      (go_wp2_with fail; (with_reducible refine (within_b n 1 16 true _ h1).mono ?_); rintro _ _ ⟨rfl, rfl⟩)
      (go_wp2_with fail; (with_reducible refine (within_b i 0 (n - 1) false _ h2).mono ?_); rintro _ _ ⟨rfl, rfl⟩)
      go_wp2_with fail
      go_ret
      exact ⟨retB HF.out.symm, Below.refl _ _⟩
    · obtain ⟨i0, i1⟩ := inB_true.1 h2
      cases h3 : digB leaf
      · have HF : Hid (b = false) := HB.out.symm.trans (tcheck_no (by unfold tfront; rw [h1, h2, h3]; rfl))
        go_enter Try.func12, Try.ntmps12
        (go_wp2_with fail; (with_reducible refine (within_b n 1 16 true _ h1).mono ?_); rintro _ _ ⟨rfl, rfl⟩)
        (go_wp2_with fail; (with_reducible refine (within_b i 0 (n - 1) true _ h2).mono ?_); rintro _ _ ⟨rfl, rfl⟩)
        (go_wp2_with fail; (with_reducible refine (isDigest_b leaf false _ h3).mono ?_); rintro _ _ ⟨rfl, rfl⟩)
        go_wp2_with fail
        go_ret
        exact ⟨retB HF.out.symm, Below.refl _ _⟩
      · cases h4 : digs l
        · have HF : Hid (b = false) := HB.out.symm.trans (tcheck_no (by unfold tfront; rw [h1, h2, h3, h4]; rfl))
          go_enter Try.func12, Try.ntmps12
          (go_wp2_with fail; (with_reducible refine (within_b n 1 16 true _ h1).mono ?_); rintro _ _ ⟨rfl, rfl⟩)
          (go_wp2_with fail; (with_reducible refine (within_b i 0 (n - 1) true _ h2).mono ?_); rintro _ _ ⟨rfl, rfl⟩)
          (go_wp2_with fail; (with_reducible refine (isDigest_b leaf true _ h3).mono ?_); rintro _ _ ⟨rfl, rfl⟩)
          (go_wp2_with fail; (with_reducible refine (areDigests_b _ l _ _ false rr hn h4).mono ?_); rintro _ _ ⟨rfl, rfl⟩)
          go_wp2_with fail
          go_ret
          exact ⟨retB HF.out.symm, Below.refl _ _⟩
        · obtain ⟨m, rfl⟩ : ∃ m : Nat, i = (m : Int) := ⟨i.toNat, by omega⟩
          obtain ⟨N, rfl⟩ : ∃ N : Nat, n = (N : Int) := ⟨n.toNat, by omega⟩
          have hmn : m < N := by omega
          have hN16 : N ≤ 16 := by omega
          have hfr : tfront (N : Int) (m : Int) leaf l = true := by unfold tfront; rw [h1, h2, h3, h4]; rfl
          obtain ⟨k, a, t, AT⟩ := at_ok N m hN16 hmn
          have hpl := AT.proofLen
          have HAT := hid' AT
          have kl := AT.lt
          have k5 := AT.len
          have kh := AT.h4
          have HPL := hid' hpl
          have HFR := hid' hfr
          clear AT hpl hfr
          go_enter Try.func12, Try.ntmps12
          (go_wp2_with fail; (with_reducible refine (within_b (N : Int) 1 16 true _ h1).mono ?_); rintro _ _ ⟨rfl, rfl⟩)
          (go_wp2_with fail; (with_reducible refine (within_b (m : Int) 0 ((N : Int) - 1) true _ h2).mono ?_); rintro _ _ ⟨rfl, rfl⟩)
          (go_wp2_with fail; (with_reducible refine (isDigest_b leaf true _ h3).mono ?_); rintro _ _ ⟨rfl, rfl⟩)
          (go_wp2_with fail; (with_reducible refine (areDigests_b _ l _ _ true rr hn h4).mono ?_); rintro _ _ ⟨rfl, rfl⟩)
          (go_wp2_with fail; (with_reducible refine (treesFrom_0 N _ hN16).mono ?_))
          rintro _ w1 ⟨vt, rfl, ot, b1⟩
          (go_wp2_with fail; (with_reducible refine (peakOf_any vt N m k a t _ _ HAT.out hN16 ot).mono ?_))
          rintro _ w2 ⟨rfl, b2⟩
          replace ot := OT.next ot b2 (Nat.le_refl _)
          have bb2 := bstep b1 b2
          obtain ⟨Ad, ct, rfl, hct, hcc⟩ := ot_form ot
          obtain ⟨g, rfl, hgb, hgs, hcell⟩ := hcc (by omega)
          obtain ⟨q0, q1⟩ := hcell k (a, t) HAT.out.get
          have kc1 : (k : Int) < ((tr 0 N).length : Int) := by omega
          have kc0 : (0 : Int) ≤ (k : Int) := by omega
          have rr2 := RV.mono (B' := w2.heap.size) (rr.below bb2 (Nat.le_refl _)) bb2.size
          obtain ⟨y, hy⟩ : ∃ y : Nat, y = 2 ^ t := ⟨_, rfl⟩
          rw [← hy] at q1
          have y2 : y ≤ 16 := by rw [hy]; exact Nat.pow_le_pow_right (n := 2) (by decide) kh
          have HY := hid' hy
          clear hcc hcell b1 b2 ot q0 rr hy
          go_wp2_with fail
          go_loop [4, 13, 14] (fun p r s => ∃ (j : Nat) (u : Int), j ≤ t ∧ j ≤ l.length ∧ s = .int .i64 ((2 ^ j : Nat) : Int) ∧ r = .int .i64 u ∧ Hid (u = climb pr m (lf l) leaf j) ∧ RV w2 w2.heap.size p ((l.drop j).map (Value.int .i64)) ∧ Flat p) (fun _ _ s => 32 - (intOf s).toNat)
          case atStart => exact ⟨0, leaf, Nat.zero_le _, Nat.zero_le _, rfl, rfl, rfl, rr2, hF⟩
          case round =>
            obtain ⟨j, u, hj, hjl, rfl, rfl, hu, hp, hfl⟩ := hrel
            have hpw := @pow_lt j t
            have b1 : 2 ^ j ≤ 16 := Nat.pow_le_pow_right (n := 2) (by decide) (Nat.le_trans hj kh)
            have b3 : 1 ≤ 2 ^ j := Nat.pow_pos (by decide)
            rw [← HY.out] at hpw
            obtain ⟨A', c', hpv, hlc, hmc, hcel⟩ := rv_intsC' hp
            have hdl : (l.drop j).length = l.length - j := List.length_drop
            rw [hdl] at hpv hlc hcel
            obtain ⟨e, he⟩ : ∃ e, e = l.length - j := ⟨_, rfl⟩
            rw [← he] at hpv hlc hcel
            subst hpv
            have hcl : (e : Int) ≤ (c' : Int) := by omega
            by_cases hlt : j < t
            · have hp' := hpw.2 hlt
              by_cases hend : j = l.length
              · have he0 : e = 0 := by omega
                subst he0
                have HF : Hid (b = false) := HB.out.symm.trans (tcheck_len (by rw [HPL.out]; omega))
                obtain ⟨z, hz⟩ : ∃ z : Nat, z = 2 ^ j := ⟨_, rfl⟩
                rw [← hz] at b1 b3 hp' ⊢
                clear hz hpw hcel hend he
                go_wp2_with fail
                go_ret
                exact ⟨retB HF.out.symm, bb2⟩
              · have hep : 0 < e := by omega
                have he1 : (0 : Int) < (e : Int) := by omega
                have he0 : ((e : Int) == 0) = false := beq_eq_false_iff_ne.2 (by omega)
                have he2 : (1 : Int) ≤ (e : Int) := by omega
                obtain ⟨b0, off, rfl, hbB, hx⟩ := hcel hep
                obtain ⟨x, hxv⟩ : ∃ x, x = lf l j := ⟨_, rfl⟩
                have hjlt : j < l.length := by omega
                have hcx : w2.cell? ⟨b0, off, none⟩ = some (.int .i64 x) := by rw [hxv]; exact hx 0 _ (lf_drop0 hjlt)
                have hdx : digB x = true := by rw [hxv]; exact digB_true.2 (lf_dig h4 j)
                have hud : digB u = true := by rw [hu.out]; exact climb_bd h4 h3 m j
                have HX := hid' hxv
                obtain ⟨u1, u2, u3, u4, u5, u6⟩ := sib_words m j (by omega) (by omega)
                obtain ⟨z, hz⟩ : ∃ z : Nat, z = 2 ^ j := ⟨_, rfl⟩
                obtain ⟨q, hq⟩ : ∃ q : Nat, q = m &&& 2 ^ j := ⟨_, rfl⟩
                have HQI := hid' hq
                have HZ := hid' hz
                rw [← hz] at hq b1 b3 hp' ⊢
                have e3 : bits .and .i64 (m : Int) (z : Int) = (q : Int) := by rw [hq]; exact and_words (by omega) b1
                have hpz : ((2 ^ (j + 1) : Nat) : Int) = (z : Int) * 2 := by rw [Nat.pow_succ, ← HZ.out]; exact Int.natCast_mul z 2
                have HPW := hid' hpz
                rw [hxv] at hcx hdx
                rw [← hxv] at hcx hdx
                have HNx : Hid (lf l j = x) := hxv.symm
                have HE := hid' he
                clear hz hpz hq hpw hx hcel hend hxv he
                by_cases hqi : q = 0
                · have f1 : ((q : Int) == 0) = true := beq_iff_eq.2 (by omega)
                  have hpar := u5.1 (HQI.out.symm.trans hqi)
                  have HN : Hid (pr u x = climb pr m (lf l) leaf (j + 1)) := by unfold Hid climb; rw [if_pos hpar, hu.out, HNx.out]
                  have HD := hid' (dpair_ok hud hdx)
                  clear u1 u2 u3 u4 u5 u6 hpar hqi
                  by_cases hc1 : 1 < c'
                  · skip
                    have hc1' : (1 : Int) ≤ (c' : Int) := by omega
                    have RN : RV w2 w2.heap.size (.slice (some ⟨b0, off + 1, none⟩) (e - 1) (c' - 1)) ((l.drop (j + 1)).map (Value.int .i64)) := by have r := rv_rest (k := 1) hp (by omega); rwa [List.drop_drop] at r
                    (go_wp2_with fail; (with_reducible refine (iDigestPair_any u x _).mono ?_); rintro _ _ ⟨rfl, rfl⟩)
                    rw [HD.out]
                    go_wp2_with fail
                    go_round
                    case rel => exact ⟨j + 1, _, by omega, by omega, by rw [HPW.out], rfl, HN, RN, .inr ⟨_, _, _, _, rfl⟩⟩
                    case measure => simp [intOf]; omega
                  · skip
                    have hc2 : c' = 1 := by omega
                    have he2 : e = 1 := by omega
                    subst hc2 he2
                    have RN : ∀ A, RV w2 w2.heap.size (.slice A 0 0) ((l.drop (j + 1)).map (Value.int .i64)) := fun A => by rw [List.drop_of_length_le (by have := HE.out; omega)]; exact RV.nil_ _ _ _ _ (by decide)
                    (go_wp2_with fail; (with_reducible refine (iDigestPair_any u x _).mono ?_); rintro _ _ ⟨rfl, rfl⟩)
                    rw [HD.out]
                    go_wp2_with fail
                    go_round
                    case rel => exact ⟨j + 1, _, by omega, by omega, by rw [HPW.out], rfl, HN, RN _, .inr ⟨_, _, _, _, rfl⟩⟩
                    case measure => simp [intOf]; omega
                · have f1 : ((q : Int) == 0) = false := beq_eq_false_iff_ne.2 (by omega)
                  have hpar : ¬ (m / 2 ^ j % 2 = 0) := fun hh => hqi (HQI.out.trans (u5.2 hh))
                  have HN : Hid (pr x u = climb pr m (lf l) leaf (j + 1)) := by unfold Hid climb; rw [if_neg hpar, hu.out, HNx.out]
                  have HD := hid' (dpair_ok hdx hud)
                  clear u1 u2 u3 u4 u5 u6 hpar hqi
                  by_cases hc1 : 1 < c'
                  · skip
                    have hc1' : (1 : Int) ≤ (c' : Int) := by omega
                    have RN : RV w2 w2.heap.size (.slice (some ⟨b0, off + 1, none⟩) (e - 1) (c' - 1)) ((l.drop (j + 1)).map (Value.int .i64)) := by have r := rv_rest (k := 1) hp (by omega); rwa [List.drop_drop] at r
                    (go_wp2_with fail; (with_reducible refine (iDigestPair_any x u _).mono ?_); rintro _ _ ⟨rfl, rfl⟩)
                    rw [HD.out]
                    go_wp2_with fail
                    go_round
                    case rel => exact ⟨j + 1, _, by omega, by omega, by rw [HPW.out], rfl, HN, RN, .inr ⟨_, _, _, _, rfl⟩⟩
                    case measure => simp [intOf]; omega
                  · skip
                    have hc2 : c' = 1 := by omega
                    have he2 : e = 1 := by omega
                    subst hc2 he2
                    have RN : ∀ A, RV w2 w2.heap.size (.slice A 0 0) ((l.drop (j + 1)).map (Value.int .i64)) := fun A => by rw [List.drop_of_length_le (by have := HE.out; omega)]; exact RV.nil_ _ _ _ _ (by decide)
                    (go_wp2_with fail; (with_reducible refine (iDigestPair_any x u _).mono ?_); rintro _ _ ⟨rfl, rfl⟩)
                    rw [HD.out]
                    go_wp2_with fail
                    go_round
                    case rel => exact ⟨j + 1, _, by omega, by omega, by rw [HPW.out], rfl, HN, RN _, .inr ⟨_, _, _, _, rfl⟩⟩
                    case measure => simp [intOf]; omega
            · have hjt : j = t := by omega
              have hp' : ¬ (2 ^ j < y) := fun hh => hlt (hpw.1 hh)
              obtain ⟨z, hz⟩ : ∃ z : Nat, z = 2 ^ j := ⟨_, rfl⟩
              rw [← hz] at b1 b3 hp' ⊢
              rw [hjt] at hu hp hjl
              have HE : Hid (e = l.length - t) := by unfold Hid; rw [he, hjt]
              clear hz hpw hlt he hcel hjt hdl
              by_cases hlen : e = (tr 0 N).length - 1
              · have hk : k ≤ e := by omega
                have hln1 : ((e : Int) != ((tr 0 N).length : Int) - 1) = false := by rw [bne_eq_false_iff_eq]; omega
                have hln2 : ((e : Int) == ((tr 0 N).length : Int) - 1) = true := beq_iff_eq.2 (by omega)
                have hll : l.length = proofLen N m := by rw [HPL.out]; have := HE.out; omega
                have HV : Hid (b = (foldD (N : Int) ((l.drop t).take k ++ u :: (l.drop t).drop k) == d)) := by
                  unfold Hid; rw [← HB.out, tcheck_yes HFR.out hll, HAT.out.checkVal, ← hu.out]
                have hdd : (l.drop t).length = e := by rw [List.length_drop]; exact HE.out.symm
                have hud : digB u = true := by rw [hu.out]; exact climb_bd h4 h3 m t
                have hdg : digs ((l.drop t).take k ++ u :: (l.drop t).drop k) = true := LR_digs fun n hn => by
                  rcases List.mem_append.1 hn with h | h
                  · exact dig_of (digs_take (digs_drop h4 t) k) n h
                  · rcases List.mem_cons.1 h with h | h
                    · rw [h]; exact digB_true.1 hud
                    · exact dig_of (digs_drop (digs_drop h4 t) k) n h
                have hpll : ((l.drop t).take k ++ u :: (l.drop t).drop k).length ≤ 1048576 := by simp; have := HE.out; omega
                have htk : ((l.drop t).take k).length = k := by rw [List.length_take]; omega
                have hdk : ((l.drop t).drop k).length ≤ 5 := by rw [List.length_drop]; omega
                obtain ⟨P, hPe⟩ : ∃ P, P = (l.drop t).take k ++ u :: (l.drop t).drop k := ⟨_, rfl⟩
                rw [← hPe] at HV hdg hpll
                have HPE := hid' hPe
                clear hPe
                have HP := hid' hpll
                have HTK := hid' htk
                have HDK := hid' hdk
                have R1 := rv_take (k := k) hp (by rw [List.length_map]; omega)
                rw [← List.map_take] at R1
                obtain ⟨j0, ji, jz0, jz1, jz2⟩ := info_parts infoInt
                have hN0 : digB (N : Int) = true := digB_true.2 ⟨by omega, by omega⟩
                have hke : (k : Int) ≤ (e : Int) := by omega
                have hkc : (k : Int) ≤ (c' : Int) := by omega
                clear hlen hll hdd hpll htk hdk
                rcases hfl with hh | ⟨b0, off, n0, c0, hh⟩
                · simp only [Value.slice.injEq] at hh
                  obtain ⟨rfl, he0, hc0⟩ := hh
                  have hk0 : k = 0 := by omega
                  subst hk0 he0 hc0
                  have hRD : RV w2 w2.heap.size (.slice none 0 0) (((l.drop t).drop 0).map (Value.int .i64)) := hp
                  (go_wp2_with fail; (with_reducible refine (clone_any _ ((l.drop t).take 0) w2.heap.size _ R1 (Nat.le_refl _) (by rw [HTK.out]; omega)).mono ?_))
                  rintro _ w3 ⟨vr, rfl, r3, b3⟩
                  have o3 := r3.1
                  clear r3
                  go_wp2_with (at_builtin; first | (refine wpList_push _ rfl _ _ 22 rfl w2.heap.size 3 j0 (.int .i64 0) 8 Try.underlying22 ji jz0 jz1 jz2 rfl _ _ rfl o3 _ rfl rfl (by rw [List.length_map, HTK.out]; omega) (by decide) b3.size ?_; intro v4 w4 o4 b4) | (refine wpList_append_rv _ rfl _ _ 22 rfl w2.heap.size 3 j0 (.int .i64 0) 8 Try.underlying22 ji jz0 jz1 jz2 rfl _ _ rfl o4 _ rfl _ _ (hRD.below (b3.trans b4) (Nat.le_refl _)) (one_ints _) (by simp only [List.length_append, List.length_map, List.length_singleton]; have q1 := HTK.out; have q2 := HDK.out; omega) (by decide) (b3.trans b4).size ?_; intro v5 w5 o5 b5))
                  have o6 : OW w5 w2.heap.size 3 v5 (P.map (Value.int .i64)) := by
                    have e : (((l.drop t).take 0 ++ u :: (l.drop t).drop 0).map (Value.int .i64)) = (((l.drop t).take 0).map (Value.int .i64) ++ [.int .i64 u]) ++ ((l.drop t).drop 0).map (Value.int .i64) := by simp
                    rw [HPE.out, e]; exact o5
                  (go_wp2_with fail; (with_reducible refine (digestOf_any (N : Int) v5 _ w5.heap.size _ o6.rv HP.out hdg hN0).mono ?_); rintro _ _ ⟨rfl, rfl⟩)
                  go_wp2_with fail
                  go_ret
                  exact ⟨retB HV.out.symm, bstep bb2 ((b3.trans b4).trans b5)⟩
                · simp only [Value.slice.injEq] at hh
                  obtain ⟨rfl, hen, hcc⟩ := hh
                  clear hen hcc
                  by_cases hkc2 : k < c'
                  · have hRD := rv_rest (k := k) hp (by have := HTK.out; rw [List.length_take] at this; omega)
                    (go_wp2_with fail; (with_reducible refine (clone_any _ ((l.drop t).take k) w2.heap.size _ R1 (Nat.le_refl _) (by rw [HTK.out]; omega)).mono ?_))
                    rintro _ w3 ⟨vr, rfl, r3, b3⟩
                    have o3 := r3.1
                    clear r3
                    go_wp2_with (at_builtin; first | (refine wpList_push _ rfl _ _ 22 rfl w2.heap.size 3 j0 (.int .i64 0) 8 Try.underlying22 ji jz0 jz1 jz2 rfl _ _ rfl o3 _ rfl rfl (by rw [List.length_map, HTK.out]; omega) (by decide) b3.size ?_; intro v4 w4 o4 b4) | (refine wpList_append_rv _ rfl _ _ 22 rfl w2.heap.size 3 j0 (.int .i64 0) 8 Try.underlying22 ji jz0 jz1 jz2 rfl _ _ rfl o4 _ rfl _ _ (hRD.below (b3.trans b4) (Nat.le_refl _)) (one_ints _) (by simp only [List.length_append, List.length_map, List.length_singleton]; have q1 := HTK.out; have q2 := HDK.out; omega) (by decide) (b3.trans b4).size ?_; intro v5 w5 o5 b5))
                    have o6 : OW w5 w2.heap.size 3 v5 (P.map (Value.int .i64)) := by
                      have e : (((l.drop t).take k ++ u :: (l.drop t).drop k).map (Value.int .i64)) = (((l.drop t).take k).map (Value.int .i64) ++ [.int .i64 u]) ++ ((l.drop t).drop k).map (Value.int .i64) := by simp
                      rw [HPE.out, e]; exact o5
                    (go_wp2_with fail; (with_reducible refine (digestOf_any (N : Int) v5 _ w5.heap.size _ o6.rv HP.out hdg hN0).mono ?_); rintro _ _ ⟨rfl, rfl⟩)
                    go_wp2_with fail
                    go_ret
                    exact ⟨retB HV.out.symm, bstep bb2 ((b3.trans b4).trans b5)⟩
                  · have hkc3 : k = c' := by omega
                    have hke3 : k = e := by omega
                    subst hkc3
                    subst hke3
                    have hRD : ∀ A, RV w2 w2.heap.size (.slice A 0 0) (((l.drop t).drop k).map (Value.int .i64)) := fun A => by
                      rw [List.drop_of_length_le (by rw [List.length_drop]; have := HE.out; omega)]; exact RV.nil_ _ _ _ _ (by decide)
                    (go_wp2_with fail; (with_reducible refine (clone_any _ ((l.drop t).take k) w2.heap.size _ R1 (Nat.le_refl _) (by rw [HTK.out]; omega)).mono ?_))
                    rintro _ w3 ⟨vr, rfl, r3, b3⟩
                    have o3 := r3.1
                    clear r3
                    go_wp2_with (at_builtin; first | (refine wpList_push _ rfl _ _ 22 rfl w2.heap.size 3 j0 (.int .i64 0) 8 Try.underlying22 ji jz0 jz1 jz2 rfl _ _ rfl o3 _ rfl rfl (by rw [List.length_map, HTK.out]; omega) (by decide) b3.size ?_; intro v4 w4 o4 b4) | (refine wpList_append_rv _ rfl _ _ 22 rfl w2.heap.size 3 j0 (.int .i64 0) 8 Try.underlying22 ji jz0 jz1 jz2 rfl _ _ rfl o4 _ rfl _ _ ((hRD _).below (b3.trans b4) (Nat.le_refl _)) (one_ints _) (by simp only [List.length_append, List.length_map, List.length_singleton]; have q1 := HTK.out; have q2 := HDK.out; omega) (by decide) (b3.trans b4).size ?_; intro v5 w5 o5 b5))
                    have o6 : OW w5 w2.heap.size 3 v5 (P.map (Value.int .i64)) := by
                      have e : (((l.drop t).take k ++ u :: (l.drop t).drop k).map (Value.int .i64)) = (((l.drop t).take k).map (Value.int .i64) ++ [.int .i64 u]) ++ ((l.drop t).drop k).map (Value.int .i64) := by simp
                      rw [HPE.out, e]; exact o5
                    (go_wp2_with fail; (with_reducible refine (digestOf_any (N : Int) v5 _ w5.heap.size _ o6.rv HP.out hdg hN0).mono ?_); rintro _ _ ⟨rfl, rfl⟩)
                    go_wp2_with fail
                    go_ret
                    exact ⟨retB HV.out.symm, bstep bb2 ((b3.trans b4).trans b5)⟩
              · have HF : Hid (b = false) := HB.out.symm.trans (tcheck_len (by rw [HPL.out]; have := HE.out; omega))
                have hln1 : ((e : Int) != ((tr 0 N).length : Int) - 1) = true := bne_iff_ne.2 (by omega)
                have hln2 : ((e : Int) == ((tr 0 N).length : Int) - 1) = false := beq_eq_false_iff_ne.2 (by omega)
                clear hlen
                go_wp2_with fail
                go_ret
                exact ⟨retB HF.out.symm, bb2⟩
end Go.Proofs.Ytnhpilipkeddiaa
