/- The walk of TreeGrowthCheck. -/
import Derived.Test.YtpbdehncmincaaaJoin
import Derived.Test.YtpbdehncmincaaaSizes
namespace Go.Proofs.Ytpbdehncmincaaa
set_option linter.unusedVariables false
open Go.RowKit

def gfront (m n : Int) (l : List Int) : Bool := inB n 0 16 && inB m 0 n && digs l
theorem gcheck_no {m old n d : Int} {l : List Int} (h : gfront m n l = false) : gcheck m old n d l = false := by unfold gcheck; unfold gfront at h; rw [h]; rfl
theorem gcheck_len {old d : Int} {m n : Nat} {l : List Int} (h : l.length ≠ (grow m n).length) : gcheck (m : Int) old (n : Int) d l = false := by
  unfold gcheck
  rw [show decide (l.length = (grow (m : Int).toNat (n : Int).toNat).length) = false from decide_eq_false h, Bool.and_false, Bool.false_and, Bool.false_and]
theorem gcheck_yes {old d : Int} {m n : Nat} {l : List Int} (h : gfront (m : Int) (n : Int) l = true) (hl : l.length = (grow m n).length) : gcheck (m : Int) old (n : Int) d l = ((foldD (m : Int) (l.take (tr 0 m).length) == old) && (gval m n (n : Int) l == d)) := by
  unfold gcheck; unfold gfront at h
  rw [h, show decide (l.length = (grow (m : Int).toNat (n : Int).toNat).length) = true from decide_eq_true hl]; rfl
theorem wpList_putT {w : World} {ops : Array Oper} {rest : List Oper} {o : Oper} {a : Act} {Q : Exit → Act → World → Prop} (hg : o.guard = none) (m x v : Operand) (hop : o.op = Op.mapUpdate 47 m x v)
    (b : Nat) (E : List ((Nat × Nat) × Int)) (t : Nat × Nat) (c : Int) (hm : a.eval m = .map (some b)) (hown : TMap w b E) (key : Value) (hx : a.eval x = key) (hkey : key = keyN t) (hv : a.eval v = .int .i64 c) (hno : findE t E 0 = none)
    (hK : ∀ w', TMap w' b (E ++ [(t, c)]) → w.grownBy w' (some b) → wpList Try.prog ops Q rest (a.put o.dst undef) w') : wpList Try.prog ops Q (o :: rest) a w := by
  subst hkey
  obtain ⟨w', hrun, h1, h2⟩ := run_putT hown t c hno
  refine wpList_plain hg fun K' hK' => ?_
  unfold Oper.wp
  simp [execOp, hop, hm, hx, hv, hrun, Result.andThen]
  exact hK' _ _ (hK w' h1 h2)
theorem findE_take (t : Nat × Nat) : ∀ (E : List ((Nat × Nat) × Int)) (i : Nat), (∀ x ∈ E, x.1 ≠ t) → findE t E i = none
  | [], _, _ => rfl
  | x :: E, i, h => by
    unfold findE
    rw [if_neg (by simp only [beq_iff_eq]; exact fun e => h x (by simp) e.symm)]
    exact findE_take t E (i + 1) fun y hy => h y (by simp [hy])
theorem zip_snoc {D : List (Nat × Nat)} {l : List Int} {j : Nat} {t : Nat × Nat} {x : Int} (ht : D[j]? = some t) (hx : l[j]? = some x) : (D.zip l).take (j + 1) = (D.zip l).take j ++ [(t, x)] := by
  have h : (D.zip l)[j]? = some (t, x) := by rw [List.getElem?_zip_eq_some]; exact ⟨ht, hx⟩
  have hlt : j < (D.zip l).length := by
    rcases Nat.lt_or_ge j (D.zip l).length with h1 | h1
    · exact h1
    · rw [List.getElem?_eq_none h1] at h; cases h
  rw [List.getElem?_eq_getElem hlt] at h
  simp only [Option.some.injEq] at h
  rw [List.take_succ_eq_append_getElem hlt, h]
theorem zip_fresh {m n : Nat} (hn : n ≤ 16) (hm : m ≤ n) {l : List Int} {j : Nat} {t : Nat × Nat} (ht : (grow m n)[j]? = some t) : findE t (((grow m n).zip l).take j) 0 = none := by
  refine findE_take t _ 0 fun x hx e => ?_
  obtain ⟨i, hi⟩ := List.getElem?_of_mem hx
  rw [List.getElem?_take] at hi
  split at hi
  · rename_i hij
    have h1 : ((grow m n).zip l)[i]? = some (x.1, x.2) := hi
    rw [List.getElem?_zip_eq_some] at h1
    rw [e] at h1
    have := grow_nodup m n hn hm h1.1 ht
    omega
  · cases hi
theorem gpeaks_take {m n : Nat} {l : List Int} {j : Nat} {t : Nat × Nat} (ht : (tr 0 n)[j]? = some t) : ((tr 0 n).take (j + 1)).map (fun t => jn pr (grow m n) l 0 t.2 t.1) = ((tr 0 n).take j).map (fun t => jn pr (grow m n) l 0 t.2 t.1) ++ [jn pr (grow m n) l 0 t.2 t.1] := by
  have hlt : j < (tr 0 n).length := by
    rcases Nat.lt_or_ge j (tr 0 n).length with h1 | h1
    · exact h1
    · rw [List.getElem?_eq_none h1] at ht; cases ht
  rw [List.getElem?_eq_getElem hlt] at ht
  simp only [Option.some.injEq] at ht
  rw [List.take_succ_eq_append_getElem hlt, ht, List.map_append]; rfl
theorem gpeaks_digs {m n : Nat} {l : List Int} (hd : digs l = true) : digs (gpeaks pr m n l 0) = true := LR_digs fun x hx => by
  unfold gpeaks at hx
  obtain ⟨t, _, rfl⟩ := List.mem_map.1 hx
  exact digB_true.1 (jn_dig hd _ _)
theorem ot_lt {w : World} {base : Nat} {v : Value} {D : List (Nat × Nat)} (h : OT w base v D) {k : Nat} (hk : v.ownBlock = some k) : base ≤ k ∧ k < w.heap.size := by
  rcases h.2 with ⟨rfl, _⟩ | ⟨g, cap, cur, rfl, hb, hg, _⟩
  · simp [Value.ownBlock] at hk
  · simp only [Value.ownBlock, Option.some.injEq] at hk
    subst hk
    refine ⟨hb, ?_⟩
    rcases Nat.lt_or_ge g w.heap.size with h | h
    · exact h
    · rw [Array.getElem?_eq_none h] at hg; cases hg
def jns (M N k : Nat) (l : List Int) : List Int := ((tr 0 N).take k).map fun t => jn pr (grow M N) l 0 t.2 t.1
theorem jns_len (M N k : Nat) (l : List Int) (hk : k ≤ (tr 0 N).length) : (jns M N k l).length = k := by unfold jns; rw [List.length_map, List.length_take]; omega
def GcR (M N : Nat) (l : List Int) (w3 : World) (base bt : Nat) (vt p x : Value) (wr : World) : Prop :=
  ∃ k : Nat, k ≤ (tr 0 N).length ∧ x = .int .i64 k ∧ OW wr base 3 p ((jns M N k l).map (Value.int .i64)) ∧ OT wr bt vt (tr 0 N) ∧ p.ownBlock ≠ vt.ownBlock ∧ TMap wr w3.heap.size ((grow M N).zip l) ∧ Below w3.heap.size w3 wr ∧ base ≤ wr.heap.size
set_option maxHeartbeats 8000000 in
set_option maxRecDepth 100000 in
theorem iGrowthCheck_b (m old n d : Int) (v : Value) (l : List Int) (w : World) (b : Bool) (h : RV w w.heap.size v (l.map (Value.int .i64))) (hn : l.length ≤ 1048576) (hb : gcheck m old n d l = b) :
    Calls Try.prog 19 #[.int .i64 m, .int .i64 old, .int .i64 n, .int .i64 d, v] w fun e w' => e = .returned (.bool b) ∧ Below w.heap.size w w' := by
  have rr := h
  obtain ⟨A, cap, rfl, hl, hm, hc⟩ := h
  rw [List.length_map] at rr hl ⊢
  clear hc
  have HB := hid' hb
  clear hb
  cases h1 : inB n 0 16
  · have HF : Hid (b = false) := HB.out.symm.trans (gcheck_no (by unfold gfront; rw [h1]; rfl))
    go_enter Try.func19, Try.ntmps19
    (go_wp2_with fail; (with_reducible refine (within_b n 0 16 false _ h1).mono ?_); rintro _ _ ⟨rfl, rfl⟩)
    go_wp2_with fail
    go_ret
    exact ⟨retB HF.out.symm, Below.refl _ _⟩
  · obtain ⟨n0, n1⟩ := inB_true.1 h1
    cases h2 : inB m 0 n
    · have HF : Hid (b = false) := HB.out.symm.trans (gcheck_no (by unfold gfront; rw [h1, h2]; rfl))
      go_enter Try.func19, Try.ntmps19
      (go_wp2_with fail; (with_reducible refine (within_b n 0 16 true _ h1).mono ?_); rintro _ _ ⟨rfl, rfl⟩)
      (go_wp2_with fail; (with_reducible refine (within_b m 0 n false _ h2).mono ?_); rintro _ _ ⟨rfl, rfl⟩)
      go_wp2_with fail
      go_ret
      exact ⟨retB HF.out.symm, Below.refl _ _⟩
    · obtain ⟨i0, i1⟩ := inB_true.1 h2
      cases h4 : digs l
      · have HF : Hid (b = false) := HB.out.symm.trans (gcheck_no (by unfold gfront; rw [h1, h2, h4]; rfl))
        go_enter Try.func19, Try.ntmps19
        (go_wp2_with fail; (with_reducible refine (within_b n 0 16 true _ h1).mono ?_); rintro _ _ ⟨rfl, rfl⟩)
        (go_wp2_with fail; (with_reducible refine (within_b m 0 n true _ h2).mono ?_); rintro _ _ ⟨rfl, rfl⟩)
        (go_wp2_with fail; (with_reducible refine (areDigests_b _ l _ _ false rr hn h4).mono ?_); rintro _ _ ⟨rfl, rfl⟩)
        go_wp2_with fail
        go_ret
        exact ⟨retB HF.out.symm, Below.refl _ _⟩
      · obtain ⟨M, rfl⟩ : ∃ M : Nat, m = (M : Int) := ⟨m.toNat, by omega⟩
        obtain ⟨N, rfl⟩ : ∃ N : Nat, n = (N : Int) := ⟨n.toNat, by omega⟩
        have hMN : M ≤ N := by omega
        have hN16 : N ≤ 16 := by omega
        have hM16 : M ≤ 16 := by omega
        have hfr : gfront (M : Int) (N : Int) l = true := by unfold gfront; rw [h1, h2, h4]; rfl
        obtain ⟨g9, gle, _⟩ := grow_len M N hN16 hMN
        have HFR := hid' hfr
        obtain ⟨i0', hi, hz0, hz1, hz2⟩ := info_parts infoTree
        have l1 := (tr_all 0 M (by omega) hM16).1
        have l2 := (tr_all M N hM16 hN16).1
        have l3 := (tr_all 0 N (by omega) hN16).1
        clear hfr
        go_enter Try.func19, Try.ntmps19
        (go_wp2_with fail; (with_reducible refine (within_b (N : Int) 0 16 true _ h1).mono ?_); rintro _ _ ⟨rfl, rfl⟩)
        (go_wp2_with fail; (with_reducible refine (within_b (M : Int) 0 (N : Int) true _ h2).mono ?_); rintro _ _ ⟨rfl, rfl⟩)
        (go_wp2_with fail; (with_reducible refine (areDigests_b _ l _ _ true rr hn h4).mono ?_); rintro _ _ ⟨rfl, rfl⟩)
        (go_wp2_with fail; (with_reducible refine (treesFrom_0 M _ hM16).mono ?_))
        rintro _ w1 ⟨v1, rfl, o1, b1⟩
        (go_wp2_with fail; (with_reducible refine (treesFrom_any M N _ hM16 hN16).mono ?_))
        rintro _ w2 ⟨v2, rfl, o2, b2⟩
        replace o1 := OT.next o1 b2 (Nat.le_refl _)
        have bb2 := bstep b1 b2
        obtain ⟨A1, c1, rfl, hl1, _⟩ := ot_form o1
        go_wp2_with (at_builtin; refine wpList_appT _ rfl _ _ rfl w.heap.size w1.heap.size i0' hi hz0 hz1 hz2 _ _ (tr 0 M) (tr M N) rfl o1 rfl o2 (by omega) bb2.size ?_; intro v3 w3 o3 b3; have o3' : OT w3 w.heap.size v3 (grow M N) := o3; obtain ⟨A3, c3, rfl, hl3, hcell3⟩ := ot_form o3'; have bb3 := bb2.trans b3; have rr3 := RV.mono (B' := w3.heap.size) (rr.below bb3 (Nat.le_refl _)) bb3.size; clear o1 o2 o3 o3' b1 b2 b3 bb2 rr; by_cases hlen : l.length = (grow M N).length)
        rotate_left
        · have HF : Hid (b = false) := HB.out.symm.trans (gcheck_len hlen)
          go_ret
          exact ⟨retB HF.out.symm, bb3⟩
        · have HL := hid' hlen
          have HV0 := hid' (HB.out.symm.trans (gcheck_yes HFR.out hlen))
          have RT := rv_take (k := (tr 0 M).length) rr3 (by rw [List.length_map]; omega)
          rw [← List.map_take] at RT
          have htl : (l.take (tr 0 M).length).length ≤ 1048576 := by rw [List.length_take]; omega
          have hM0 : digB (M : Int) = true := digB_true.2 ⟨by omega, by omega⟩
          (with_reducible refine (digestOf_any (M : Int) _ (l.take (tr 0 M).length) w3.heap.size _ RT htl (digs_take h4 _) hM0).mono ?_)
          rintro _ _ ⟨rfl, rfl⟩
          obtain ⟨oo, hoo⟩ : ∃ oo, foldD (M : Int) (l.take (tr 0 M).length) = oo := ⟨_, rfl⟩
          rw [hoo] at HV0 ⊢
          clear hoo RT htl
          by_cases hold : oo = old
          · have e1 : (oo != old) = false := by rw [hold]; simp
            have HV : Hid (b = (gval M N (N : Int) l == d)) := by unfold Hid; rw [HV0.out, hold]; simp
            have hmm := @run_makeMap Try.prog
            clear hold HV0
            go_wp2_with fail
            go_loopw [58] (fun x wr => ∃ j : Nat, j ≤ (grow M N).length ∧ x = .int .i64 j ∧ TMap wr w3.heap.size (((grow M N).zip l).take j) ∧ Below w3.heap.size w3 wr) (fun x _ => (grow M N).length - (intOf x).toNat)
            case atStart => exact ⟨0, Nat.zero_le _, rfl, TMap.made w3, bnew w3 _⟩
            case round =>
              obtain ⟨j, hj, rfl, hmap, hbel⟩ := hrel
              by_cases hlt : j < (grow M N).length
              · obtain ⟨g, rfl, hgb, hgs, hcell⟩ := hcell3 (by omega)
                obtain ⟨t, htk⟩ : ∃ t, (grow M N)[j]? = some t := ⟨(grow M N)[j], List.getElem?_eq_getElem hlt⟩
                obtain ⟨q0, q1⟩ := hcell j t htk
                have hcx0 : wr.cell? ⟨g, j * 2, none⟩ = some (.int .i64 (t.1 : Int)) := (hbel.cell (p := ⟨g, j * 2, none⟩) hgs).trans q0
                have hcx1 : wr.cell? ⟨g, j * 2 + 1, none⟩ = some (.int .i64 ((2 ^ t.2 : Nat) : Int)) := (hbel.cell (p := ⟨g, j * 2 + 1, none⟩) hgs).trans q1
                obtain ⟨A', c', hv', _, _, hlc⟩ := rv_ints2 rr3
                simp only [Value.slice.injEq] at hv'
                obtain ⟨rfl, _, rfl⟩ := hv'
                obtain ⟨bp, op, rfl, hbp, hpx⟩ := hlc (by omega)
                obtain ⟨c, hc⟩ : ∃ c, l[j]? = some c := ⟨l[j], List.getElem?_eq_getElem (by have := HL.out; omega)⟩
                have hpc : wr.cell? ⟨bp, op + j, none⟩ = some (.int .i64 c) := (hbel.cell (p := ⟨bp, op + j, none⟩) hbp).trans (hpx j c hc)
                have HZS := hid' (zip_snoc (l := l) htk hc)
                have HFE := hid' (zip_fresh hN16 hMN (l := l) htk)
                obtain ⟨z, hz⟩ : ∃ z : Int, z = ((2 ^ t.2 : Nat) : Int) := ⟨_, rfl⟩
                rw [← hz] at hcx1
                obtain ⟨y, hy⟩ : ∃ y : Int, y = (t.1 : Int) := ⟨_, rfl⟩
                rw [← hy] at hcx0
                have HK : Hid (Value.agg #[.int .i64 y, .int .i64 z] = keyN t) := by unfold Hid keyN keyT; rw [hy, hz]
                have hj0 : (0 : Int) ≤ (j : Int) := by omega
                have hjl : (j : Int) < (l.length : Int) := by have := HL.out; omega
                have hmapA := hmap.next (bnew wr (.cells #[.int .i64 y, .int .i64 z] 49))
                have hbelA := balloc hbel (.cells #[.int .i64 y, .int .i64 z] 49)
                clear htk hc q0 q1 hz hy hcell hcell3 hlc hpx hlen
                go_wp2_with fail
                have hbx := Box.new wr 49 #[.int .i64 y, .int .i64 z]
                obtain ⟨wA, hwA⟩ : ∃ wA, wA = wr.alloc (.cells #[.int .i64 y, .int .i64 z] 49) := ⟨_, rfl⟩
                obtain ⟨q, hq⟩ : ∃ q, q = wr.heap.size := ⟨_, rfl⟩
                rw [← hwA, ← hq] at hbx
                have hpcA : wA.cell? ⟨bp, op + j, none⟩ = some (.int .i64 c) := by rw [hwA]; exact ((bnew wr _).cell (p := ⟨bp, op + j, none⟩) (by have := hbel.size; show bp < wr.heap.size; omega)).trans hpc
                rw [← hwA] at hmapA hbelA
                rw [← hwA, ← hq]
                have a0 : wA.drew.cell? ⟨q, 0, none⟩ = some (.int .i64 y) := hbx.cell 0
                have a1 : wA.drew.cell? ⟨q, 1, none⟩ = some (.int .i64 z) := hbx.cell 1
                have a2 : wA.drew.cell? ⟨bp, op + j, none⟩ = some (.int .i64 c) := hpcA
                have b0 := a0
                have b1 := a1
                have b2 := a2
                simp only [World.drew] at b0 b1 b2
                clear hcx0 hcx1 hpc hmap hbel hbx hpcA hwA hq
                go_still_tail 6, (by kernel_rfl)
                change wpList _ _ _ _ _ wA.drew
                have hmapD : TMap wA.drew w3.heap.size (((grow M N).zip l).take j) := hmapA
                refine wpList_putT rfl _ _ _ rfl w3.heap.size _ t c rfl hmapD _ rfl HK.out rfl HFE.out ?_
                intro w5 m5 g5
                rw [← HZS.out] at m5
                have hbel5 : Below w3.heap.size w3 w5 := (hbelA.drew).grown g5 hbelA.size fun k hk => by simp only [Option.some.injEq] at hk; omega
                clear hmapA hmapD hbelA a0 a1 a2 b0 b1 b2
                go_wp2_with fail
                go_roundw
                case rel => exact ⟨j + 1, by omega, by go_num, m5, hbel5⟩
                case measure => simp [intOf]; omega
              · have hje : j = (grow M N).length := by omega
                have hzl : ((grow M N).zip l).take j = (grow M N).zip l := by rw [hje, List.take_of_length_le (by rw [List.length_zip]; omega)]
                rw [hzl] at hmap
                have HDL : Hid ((grow M N).length = l.length) := HL.out.symm
                obtain ⟨wC, hwC⟩ : ∃ wC : World, wC = wr := ⟨_, rfl⟩
                rw [← hwC] at hmap hbel ⊢
                obtain ⟨j0, ji, jz0, jz1, jz2⟩ := info_parts infoInt
                have T3 := fun t ht => cov_ok M N hN16 hMN (t := t) ht
                have HT3 := hid' T3
                have hdd := h4
                have hlt2 : ((grow M N).length : Int) ≤ (j : Int) := by omega
                clear hzl hwC hcell3 hlen T3 hje hlt
                (go_wp2_with fail; (with_reducible refine (treesFrom_0 N _ hN16).mono ?_))
                rintro _ wD ⟨vt, rfl, ot, bD⟩
                obtain ⟨AT, cT, rfl, hlT, hcT⟩ := ot_form ot
                have hown0 : OW wD wC.heap.size 3 (.slice (some ⟨wC.heap.size, 0, none⟩) 0 0) (([] : List Int).map (Value.int .i64)) := (own_empty (Nat.le_refl _)).next bD (Nat.le_refl _)
                have hmapD := (hmap.next (bnew wC (.cells #[] 3))).next bD
                have hbelD : Below w3.heap.size w3 wD := bstep (balloc hbel _) bD
                have hszC : w3.heap.size < wC.heap.size := hmap.lt
                have hot := ot
                have hneq : Value.ownBlock (.slice (some ⟨wC.heap.size, 0, none⟩) 0 0) ≠ Value.ownBlock (.slice AT (tr 0 N).length cT) := fun e => by
                  have h1 := (ot_lt ot (k := wC.heap.size) e.symm).1
                  simp at h1; omega
                have hbs : wC.heap.size ≤ wD.heap.size := by have := bD.size; simp at this; omega
                obtain ⟨bt, hbt⟩ : ∃ bt, bt = (wC.alloc (.cells #[] 3)).heap.size := ⟨_, rfl⟩
                rw [← hbt] at hot
                clear ot bD hmap hbel hcT hbt
                go_wp2_with fail
                go_loopw [16, 74] (fun p x wr => GcR M N l w3 wC.heap.size bt (.slice AT (tr 0 N).length cT) p x wr) (fun _ x _ => (tr 0 N).length - (intOf x).toNat)
                case atStart => exact show GcR _ _ _ _ _ _ _ _ _ _ from ⟨0, Nat.zero_le _, rfl, hown0, hot, hneq, hmapD, hbelD, hbs⟩
                case round =>
                  obtain ⟨k, hk, rfl, hown, ot, hneq, hmap, hbel, hbs⟩ := hrel
                  by_cases hlt : k < (tr 0 N).length
                  · obtain ⟨A', c', hv', _, hcT⟩ := ot_form ot
                    simp only [Value.slice.injEq] at hv'
                    obtain ⟨rfl, _, rfl⟩ := hv'
                    obtain ⟨g, rfl, hgb, hgs, hcell⟩ := hcT (by omega)
                    obtain ⟨t, htk⟩ : ∃ t, (tr 0 N)[k]? = some t := ⟨(tr 0 N)[k], List.getElem?_eq_getElem hlt⟩
                    obtain ⟨hcx0, hcx1⟩ := hcell k t htk
                    obtain ⟨hcov, h44, hle⟩ := HT3.out t (List.mem_of_getElem? htk)
                    obtain ⟨z, hz⟩ : ∃ z : Int, z = ((2 ^ t.2 : Nat) : Int) := ⟨_, rfl⟩
                    rw [← hz] at hcx1
                    obtain ⟨y, hy⟩ : ∃ y : Int, y = (t.1 : Int) := ⟨_, rfl⟩
                    rw [← hy] at hcx0
                    have HY := hid' hy
                    have HZ := hid' hz
                    have HG := hid' (gpeaks_take (l := l) (m := M) htk)
                    have HJL := hid' (jns_len M N k l hk)
                    obtain ⟨A5, c5, rfl⟩ := own_shape hown
                    rw [HJL.out] at hown hneq ⊢
                    clear htk hy hz hcell hcT
                    go_wp2_with fail
                    (with_reducible refine (joined_any (grow M N) l w3.heap.size HDL.out hdd t.2 t.1 y z _ (hmap.next (bnew wr _)) hcov h44 hle HY.out HZ.out).mono ?_)
                    rintro _ w5 ⟨rfl, b5⟩
                    have b5' := bstep (bnew wr _) b5
                    have hown5 := hown.next b5' (Nat.le_refl _)
                    have ot5 := OT.next ot b5' (Nat.le_refl _)
                    have hmap5 := hmap.next b5'
                    have hbel5 := bstep hbel b5'
                    have hbs5 := Nat.le_trans hbs b5'.size
                    have hl5 : ((jns M N k l).map (Value.int .i64)).length ≤ 33554432 := by rw [List.length_map, HJL.out]; omega
                    clear b5 b5' hcx0 hcx1 hown hmap hbel ot
                    obtain ⟨jv, hjv⟩ : ∃ jv, jn pr (grow M N) l 0 t.2 t.1 = jv := ⟨_, rfl⟩
                    rw [hjv] at HG ⊢
                    go_wp2_with (at_builtin; refine wpList_push_at _ rfl _ _ 22 rfl wC.heap.size 3 j0 (.int .i64 0) 8 Try.underlying22 ji jz0 jz1 jz2 rfl _ _ rfl hown5 _ rfl rfl hl5 (by decide) hbs5 ?_; intro v6 w6 o6 g6 l6)
                    have o6' : OW w6 wC.heap.size 3 v6 ((jns M N (k + 1) l).map (Value.int .i64)) := by
                      have h := HG.out
                      unfold jns at o6 ⊢
                      rw [h, List.map_append]; exact o6
                    have ot6 : OT w6 bt (.slice (some ⟨g, 0, none⟩) (tr 0 N).length cT) (tr 0 N) := World.ownsRow.kept ot5 g6 (.inr fun e => hneq e.symm)
                    have hneq6 : v6.ownBlock ≠ Value.ownBlock (.slice (some ⟨g, 0, none⟩) (tr 0 N).length cT) := by
                      rcases l6 with h | ⟨q, h, hq⟩
                      · rw [h]; exact hneq
                      · rw [h]; intro e; have := (ot_lt ot5 e.symm).2; omega
                    have hb6 : Below wC.heap.size w5 w6 := below_grownO g6 hbs5 fun q hq => (ow_lt hown5 hq).1
                    have hmap6 := hmap5.below hb6 hszC
                    have hbel6 := hbel5.trans (hb6.mono (Nat.le_of_lt hszC))
                    have hbs6 := Nat.le_trans hbs5 hb6.size
                    go_roundw
                    case rel => exact show GcR M N l w3 wC.heap.size bt (.slice (some ⟨g, 0, none⟩) (tr 0 N).length cT) v6 (.int .i64 ((k : Int) + 1)) w6 from ⟨k + 1, by omega, by go_num, o6', ot6, hneq6, hmap6, hbel6, hbs6⟩
                    case measure => simp [intOf]; omega
                  · have hkN : k = (tr 0 N).length := by omega
                    have HGP : Hid (jns M N k l = gpeaks pr M N l 0) := by unfold Hid jns gpeaks; rw [hkN, List.take_length]
                    have HJL := hid' (jns_len M N k l hk)
                    obtain ⟨A5, c5, rfl⟩ := own_shape hown
                    rw [HJL.out] at hown ⊢
                    rw [HGP.out] at hown
                    have hgd := gpeaks_digs (m := M) (n := N) (l := l) hdd
                    have hgl : (gpeaks pr M N l 0).length ≤ 1048576 := by unfold gpeaks; rw [List.length_map]; omega
                    have hlt2 : ((tr 0 N).length : Int) ≤ (k : Int) := by omega
                    have hN0 : digB (N : Int) = true := digB_true.2 ⟨by omega, by omega⟩
                    have bb7 := bb3.trans (hbel.mono bb3.size)
                    clear hkN hlt
                    (go_wp2_with fail; (with_reducible refine (digestOf_any (N : Int) _ (gpeaks pr M N l 0) _ _ hown.rv hgl hgd hN0).mono ?_); rintro _ _ ⟨rfl, rfl⟩)
                    obtain ⟨gg, hgg⟩ : ∃ gg, foldD (N : Int) (gpeaks pr M N l 0) = gg := ⟨_, rfl⟩
                    have HB2 : Hid (b = (gg == d)) := by have := HV.out; unfold gval at this; rw [hgg] at this; exact this
                    rw [hgg]
                    clear hgg
                    go_wp2_with fail
                    go_ret
                    exact ⟨retB HB2.out.symm, bb7⟩
          · have e1 : (oo != old) = true := bne_iff_ne.2 hold
            have HF : Hid (b = false) := by unfold Hid; rw [HV0.out, beq_eq_false_iff_ne.2 hold]; rfl
            clear hold HV0
            go_wp2_with fail
            go_ret
            exact ⟨retB HF.out.symm, bb3⟩
end Go.Proofs.Ytpbdehncmincaaa
