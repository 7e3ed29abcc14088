/- The walk that divides leaves into trees: a row of elements of two cells. -/
import Derived.Test.YtpbdehncmincaaaCover
namespace Go.Proofs.Ytpbdehncmincaaa
set_option linter.unusedVariables false
open Go.RowKit

def Szp (a n : Nat) (s : Int) : Prop := ∃ j, j ≤ 4 ∧ s = ((2 ^ j : Nat) : Int) ∧ htF (4 - j) a n j = ht a n
theorem szp_start (a n : Nat) : Szp a n 1 := ⟨0, by omega, rfl, rfl⟩
theorem szp_bd {a n : Nat} {s : Int} (h : Szp a n s) : 1 ≤ s ∧ s ≤ 16 := by
  obtain ⟨j, hj, rfl, _⟩ := h
  rcases (show j = 0 ∨ j = 1 ∨ j = 2 ∨ j = 3 ∨ j = 4 by omega) with rfl | rfl | rfl | rfl | rfl <;> decide
theorem szp_pow {j : Nat} : ((2 ^ (j + 1) : Nat) : Int) = 2 * ((2 ^ j : Nat) : Int) := by rw [Nat.pow_succ]; omega
theorem szp_more {a n : Nat} {s : Int} (h : Szp a n s) (hn : n ≤ 16) (h1 : 2 * s ≤ (n : Int) - a) (h2 : (a : Int) % (2 * s) = 0) : Szp a n (2 * s) := by
  obtain ⟨j, hj, rfl, hh⟩ := h
  have hj4 : j < 4 := by
    rcases Nat.lt_or_ge j 4 with h | h
    · exact h
    · have : j = 4 := by omega
      subst this
      have : ((2 ^ 4 : Nat) : Int) = 16 := rfl
      omega
  rw [← szp_pow] at h1 h2
  have h1' : a + 2 ^ (j + 1) ≤ n := by omega
  have h2' : a % 2 ^ (j + 1) = 0 := by
    have : ((a % 2 ^ (j + 1) : Nat) : Int) = 0 := by rw [Int.natCast_emod]; exact h2
    omega
  refine ⟨j + 1, by omega, szp_pow.symm, ?_⟩
  rw [← hh, show 4 - j = (4 - (j + 1)) + 1 by omega, htF_yes h2' h1']
theorem szp_end {a n : Nat} {s : Int} (h : Szp a n s) (hn : ¬ (2 * s ≤ (n : Int) - a ∧ (a : Int) % (2 * s) = 0)) (han : a ≤ n) : szI a n = s := by
  obtain ⟨j, hj, rfl, hh⟩ := h
  refine szI_of ?_ rfl
  rw [← hh]
  rcases Nat.lt_or_ge j 4 with hj4 | hj4
  · rw [show 4 - j = (4 - (j + 1)) + 1 by omega]
    refine htF_no ?_
    rw [← szp_pow] at hn
    by_cases h1 : a % 2 ^ (j + 1) = 0
    · right
      rcases Nat.lt_or_ge n (a + 2 ^ (j + 1)) with h2 | h2
      · exact h2
      · exact absurd ⟨by omega, by rw [← Int.natCast_emod, h1]; rfl⟩ hn
    · exact .inl h1
  · have : j = 4 := by omega
    subst this; rfl
theorem szI_bd (a n : Nat) : 1 ≤ szI a n := by
  unfold szI
  have : 0 < (2 : Nat) ^ ht a n := Nat.pow_pos (by decide)
  omega

theorem trF_yes {f a n : Nat} (h : a < n) : trF (f + 1) a n = (a, ht a n) :: trF f (a + 2 ^ ht a n) n := if_pos h
theorem trF_no {f a n : Nat} (h : n ≤ a) : trF f a n = [] := by
  cases f with
  | zero => rfl
  | succ f => exact if_neg (by omega)

/-- the cells of a row of trees -/
def flatT (D : List (Nat × Nat)) : List Value := D.flatMap fun t => [.int .i64 (t.1 : Int), .int .i64 ((2 ^ t.2 : Nat) : Int)]
theorem flatT_snoc (D : List (Nat × Nat)) (t : Nat × Nat) : flatT (D ++ [t]) = flatT D ++ [.int .i64 (t.1 : Int), .int .i64 ((2 ^ t.2 : Nat) : Int)] := by
  unfold flatT; rw [List.flatMap_append]; rfl
theorem flatT_len : ∀ D : List (Nat × Nat), (flatT D).length = D.length * 2
  | [] => rfl
  | t :: D => by
    have := flatT_len D
    unfold flatT at this ⊢
    rw [List.flatMap_cons, List.length_append, this]; simp; omega
theorem flatT_at : ∀ (D : List (Nat × Nat)) (k : Nat) (t : Nat × Nat), D[k]? = some t → (flatT D)[k * 2]? = some (.int .i64 (t.1 : Int)) ∧ (flatT D)[k * 2 + 1]? = some (.int .i64 ((2 ^ t.2 : Nat) : Int))
  | [], k, t, h => by cases h
  | x :: D, 0, t, h => by
    simp only [List.getElem?_cons_zero, Option.some.injEq] at h
    subst h; exact ⟨rfl, rfl⟩
  | x :: D, k + 1, t, h => by
    rw [List.getElem?_cons_succ] at h
    have := flatT_at D k t h
    have e : (k + 1) * 2 = k * 2 + 2 := by omega
    rw [e]
    exact this
def OT (w : World) (base : Nat) (v : Value) (D : List (Nat × Nat)) : Prop := w.ownsRow base 49 2 v D.length (flatT D)

theorem infoTree : (Try.prog.info? 49).map (fun i => (i.zero, i.size, i.bytes)) = some (some (.agg #[.int .i64 0, .int .i64 0]), 2, 16) := by kernel_rfl
theorem wpList_pushT (w : World) {ops : Array Oper} {rest : List Oper} {o : Oper} {a : Act} {Q : Exit → Act → World → Prop} (hgd : o.guard = none) (s x : Operand)
    (ho : o.op = .call { callee := .builtin .append, args := #[s, x], argTypes := #[42, 42] })
    (base : Nat) (i : TypeInfo) (hi : Try.prog.info? 49 = some i) (hz : i.zero = some (.agg #[.int .i64 0, .int .i64 0]))
    (hsize : i.size = 2) (hby : i.bytes = 16)
    (v : Value) (D : List (Nat × Nat)) (hs : a.eval s = v) (hown : OT w base v D) (t : Nat × Nat) (y z : Int) (hy : y = (t.1 : Int)) (hzz : z = ((2 ^ t.2 : Nat) : Int))
    (hx : a.eval x = .slice (some ⟨w.heap.size, 0, none⟩) 1 1) (hlen : D.length ≤ 33554432) (hbase : base ≤ w.heap.size)
    (h : ∀ v' w', OT w' base v' (D ++ [t]) → Below base w w' → wpList Try.prog ops Q rest (a.put o.dst v') w') : wpList Try.prog ops Q (o :: rest) a (w.alloc (.cells #[.int .i64 y, .int .i64 z] 49)) := by
  subst hy hzz
  refine wpList_append_own (w.alloc (.cells #[.int .i64 (t.1 : Int), .int .i64 ((2 ^ t.2 : Nat) : Int)] 49)) hgd s x 42 ho base 49 i _ 2 16 Try.underlying42 hi hz hsize hby rfl (by decide) v D.length (flatT D) hs (World.ownsRow.alloc hown _) ⟨w.heap.size, 0, none⟩ 1 1 [.int .i64 (t.1 : Int), .int .i64 ((2 ^ t.2 : Nat) : Int)] hx rfl ?_ ?_ ?_ ?_ ?_ ?_
  · intro j u hj
    match j, hj with
    | 0, hj =>
      simp only [List.getElem?_cons_zero, Option.some.injEq] at hj; subst hj
      have : (⟨w.heap.size, 0, none⟩ : Addr).add 0 = ⟨w.heap.size, 0, none⟩ := by simp [Addr.add]
      rw [this, cell_of_row _ _ 0 _ _ _ (heap_alloc_new w _)]; rfl
    | 1, hj =>
      simp only [List.getElem?_cons_succ, List.getElem?_cons_zero, Option.some.injEq] at hj; subst hj
      have : (⟨w.heap.size, 0, none⟩ : Addr).add 1 = ⟨w.heap.size, 1, none⟩ := by simp [Addr.add]
      rw [this, cell_of_row _ _ 1 _ _ _ (heap_alloc_new w _)]; rfl
  · intro u hu
    simp only [List.mem_cons, List.not_mem_nil, or_false] at hu
    rcases hu with rfl | rfl <;> rfl
  · unfold maxLen; omega
  · omega
  · have : (w.alloc (.cells #[.int .i64 (t.1 : Int), .int .i64 ((2 ^ t.2 : Nat) : Int)] 49)).heap.size = w.heap.size + 1 := by simp
    omega
  · intro v' w' hown' hg _
    refine h v' w' ?_ ?_
    · unfold OT
      rw [flatT_snoc, List.length_append]; exact hown'
    · refine ((Below.refl base w).alloc hbase _).grown hg (by simp; omega) ?_
      intro k hk
      exact (World.ownsRow.lt hown k hk).1

/-- What the division leaves. -/
def NewTrees (w0 : World) (D : List (Nat × Nat)) (en : Ending) (w' : World) : Prop := ∃ v', en = .returned v' ∧ OT w' w0.heap.size v' D ∧ Below w0.heap.size w0 w'
set_option maxHeartbeats 4000000 in
theorem treesFrom_any (a n : Nat) (w : World) (ha : a ≤ 16) (hn : n ≤ 16) :
    Calls Try.prog 34 #[.int .i64 (a : Int), .int .i64 (n : Int)] w (NewTrees w (tr a n)) := by
  obtain ⟨i0, hi, hz0, hz1, hz2⟩ := info_parts infoTree
  go_enter Try.func34, Try.ntmps34
  go_wp2_with fail
  go_loopw [0, 5] (fun x v wr => ∃ (c f : Nat) (D : List (Nat × Nat)), c ≤ 16 ∧ n ≤ c + f ∧ D.length + f ≤ 16 ∧ x = .int .i64 c ∧ Hid (D ++ trF f c n = tr a n) ∧ OT wr w.heap.size v D ∧ Below w.heap.size w wr) (fun x _ _ => 16 - (intOf x).toNat)
  case atStart => exact ⟨a, 16, [], ha, by omega, by simp, rfl, rfl, World.ownsRow_lit w #[] 0 (Nat.le_refl _) (Nat.zero_le _) rfl, bnew w _⟩
  case round =>
    obtain ⟨c, f, D, hc, hf, hDf, rfl, hD, hown, hbel⟩ := hrel
    by_cases hlt : c < n
    · obtain ⟨wo, hwo⟩ : ∃ wo : World, wo = wr := ⟨_, rfl⟩
      subst hwo
      go_wp2_with fail
      go_loop [6] (fun s => ∃ z : Int, s = .int .i64 z ∧ Hid (Szp c n z)) (fun s => 16 - (intOf s).toNat)
      case atStart => exact ⟨1, rfl, szp_start c n⟩
      case round =>
        obtain ⟨z, rfl, hz⟩ := hrel
        obtain ⟨z0, z1⟩ := szp_bd hz.out
        by_cases h1 : 2 * z ≤ (n : Int) - (c : Int)
        · by_cases h2 : (c : Int) % (2 * z) = 0
          · have t1 : (((c : Int) % (2 * z)) == 0) = true := beq_iff_eq.2 h2
            have HZ := hid' (szp_more hz.out hn h1 h2)
            clear h2
            go_wp2_with fail
            go_round
            case rel => exact ⟨2 * z, by go_num, HZ⟩
            case measure => simp [intOf]; omega
          · have t1 : (((c : Int) % (2 * z)) == 0) = false := beq_eq_false_iff_ne.2 h2
            have HE := hid' (szp_end hz.out (fun hh => h2 hh.2) (Nat.le_of_lt hlt))
            clear h2
            go_wp2_with (at_builtin; refine wpList_pushT _ rfl _ _ rfl w.heap.size i0 hi hz0 hz1 hz2 _ D rfl hown (c, ht c n) (c : Int) z rfl HE.out.symm rfl (by omega) hbel.size ?_; intro v' w1 hown1 hbel1)
            have hf1 : 1 ≤ f := by omega
            have HT : Hid ((D ++ [(c, ht c n)]) ++ trF (f - 1) (c + 2 ^ ht c n) n = tr a n) := by
              have h := hD.out
              rw [show f = (f - 1) + 1 by omega, trF_yes hlt] at h
              unfold Hid; rw [← h, List.append_assoc]; rfl
            have hz2 : z = ((2 ^ ht c n : Nat) : Int) := HE.out.symm
            have hend := ht_end c n hlt hn
            have hpos : 0 < (2 : Nat) ^ ht c n := Nat.pow_pos (by decide)
            go_roundw
            case rel => exact ⟨c + 2 ^ ht c n, f - 1, D ++ [(c, ht c n)], by omega, by omega, by rw [List.length_append, List.length_singleton]; omega, by rw [hz2]; go_num, HT, hown1, hbel.trans hbel1⟩
            case measure => simp [intOf]; omega
        · have HE := hid' (szp_end hz.out (fun hh => h1 hh.1) (Nat.le_of_lt hlt))
          go_wp2_with (at_builtin; refine wpList_pushT _ rfl _ _ rfl w.heap.size i0 hi hz0 hz1 hz2 _ D rfl hown (c, ht c n) (c : Int) z rfl HE.out.symm rfl (by omega) hbel.size ?_; intro v' w1 hown1 hbel1)
          have hf1 : 1 ≤ f := by omega
          have HT : Hid ((D ++ [(c, ht c n)]) ++ trF (f - 1) (c + 2 ^ ht c n) n = tr a n) := by
            have h := hD.out
            rw [show f = (f - 1) + 1 by omega, trF_yes hlt] at h
            unfold Hid; rw [← h, List.append_assoc]; rfl
          have hz2 : z = ((2 ^ ht c n : Nat) : Int) := HE.out.symm
          have hend := ht_end c n hlt hn
          have hpos : 0 < (2 : Nat) ^ ht c n := Nat.pow_pos (by decide)
          go_roundw
          case rel => exact ⟨c + 2 ^ ht c n, f - 1, D ++ [(c, ht c n)], by omega, by omega, by rw [List.length_append, List.length_singleton]; omega, by rw [hz2]; go_num, HT, hown1, hbel.trans hbel1⟩
          case measure => simp [intOf]; omega
    · have HF : Hid (D = tr a n) := by have := hD.out; rw [trF_no (by omega), List.append_nil] at this; exact this
      go_wp2_with fail
      go_ret
      exact ⟨_, rfl, by rw [← HF.out]; exact hown, hbel⟩
end Go.Proofs.Ytpbdehncmincaaa
