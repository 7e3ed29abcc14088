/- The walks of the roots of complete trees. -/
import Derived.Test.YtpbdehncmincaaaTreeW
import Derived.Deep.DeepMust
namespace Go.Proofs.Ytpbdehncmincaaa
set_option linter.unusedVariables false
open Go.RowKit

/-- what the region of 'root' reads, and what is kept -/
def RootS (w0 : World) (B : Nat) (v : Value) (L : List Value) (x z : Int) (w' : World) : Prop :=
  w'.cell? ⟨w0.heap.size, 0, none⟩ = some (.int .i64 x) ∧ w'.cell? ⟨w0.heap.size, 1, none⟩ = some (.int .i64 z) ∧ RV w' B v L ∧ Below w0.heap.size w0 w' ∧ w0.heap.size < w'.heap.size ∧ B ≤ w'.heap.size
theorem root_next {w0 w1 w2 : World} {B : Nat} {v : Value} {L : List Value} {x z : Int} (h : RootS w0 B v L x z w1) (hb : Below w1.heap.size w1 w2) : RootS w0 B v L x z w2 := by
  obtain ⟨c0, c1, r, b, hs, hB⟩ := h
  refine ⟨(hb.cell (p := ⟨w0.heap.size, 0, none⟩) hs).trans c0, (hb.cell (p := ⟨w0.heap.size, 1, none⟩) hs).trans c1, r.below hb hB, bstep b hb, Nat.lt_of_lt_of_le hs hb.size, Nat.le_trans hB hb.size⟩
theorem root_step {w0 w1 w2 : World} {B : Nat} {v : Value} {L : List Value} {x z : Int} (h : w1.cell? ⟨w0.heap.size, 0, none⟩ = some (.int .i64 x) ∧ w1.cell? ⟨w0.heap.size, 1, none⟩ = some (.int .i64 z) ∧ RootS w0 B v L x z w1) (hb : Below w1.heap.size w1 w2) :
    w2.cell? ⟨w0.heap.size, 0, none⟩ = some (.int .i64 x) ∧ w2.cell? ⟨w0.heap.size, 1, none⟩ = some (.int .i64 z) ∧ RootS w0 B v L x z w2 := by
  have := root_next h.2.2 hb
  exact ⟨this.1, this.2.1, this⟩
theorem root_bel {w0 w1 : World} {B : Nat} {v : Value} {L : List Value} {x z : Int} (h : w1.cell? ⟨w0.heap.size, 0, none⟩ = some (.int .i64 x) ∧ w1.cell? ⟨w0.heap.size, 1, none⟩ = some (.int .i64 z) ∧ RootS w0 B v L x z w1) : Below w0.heap.size w0 w1 := h.2.2.2.2.2.1
set_option maxHeartbeats 4000000 in
theorem root_any (L : List Int) (v : Value) (B : Nat) (hd : digs L = true) (h16 : L.length ≤ 16) : ∀ (h a : Nat) (x z : Int) (w : World), RV w B v (L.map (Value.int .i64)) → B ≤ w.heap.size → a + 2 ^ h ≤ L.length → x = (a : Int) → z = ((2 ^ h : Nat) : Int) →
    Calls Try.prog 50 #[.agg #[.int .i64 x, .int .i64 z], v] w fun e w' => e = .returned (.int .i64 (rt pr (lf L) h a)) ∧ Below w.heap.size w w' := by
  intro h
  induction h with
  | zero =>
    intro a x z w hr hB hle hx hz
    have hz1 : z = 1 := hz
    subst hz1
    clear hz
    subst hx
    obtain ⟨A, cap, rfl, hl, hm, hc⟩ := hr
    rw [List.length_map] at hl hc ⊢
    have hlt : a < L.length := by simp at hle; omega
    obtain ⟨b, off, rfl, hbB, hcell⟩ := hc (by omega)
    obtain ⟨y, hy, hyv⟩ := get_int hlt
    have hcx : (w.alloc (.cells #[.int .i64 (a : Int), .int .i64 1] 49)).cell? ⟨b, off + a, none⟩ = some (.int .i64 y) := (World.cell?_alloc_lt w _ _ (by show b < w.heap.size; omega)).trans (hcell a _ hyv)
    have H := hid' (lf_get hy)
    clear hcell hc hy hyv hle
    go_enter Try.func50, Try.ntmps50
    go_wp2_with fail
    go_ret
    exact ⟨retI H.out.symm, bnew w _⟩
  | succ h ih =>
    intro a x z w hr hB hle hx hz
    obtain ⟨y, hy⟩ : ∃ y : Int, y = ((2 ^ h : Nat) : Int) := ⟨_, rfl⟩
    have hpow : (2 : Nat) ^ (h + 1) = 2 * 2 ^ h := by rw [Nat.pow_succ, Nat.mul_comm]
    have hp0 : 0 < (2 : Nat) ^ h := Nat.pow_pos (by decide)
    rw [hpow] at hle hz
    have hzy : z / 2 = y := by omega
    have z0 : 2 ≤ z := by omega
    have z1 : z ≤ 16 := by omega
    have y0 : 1 ≤ y := by omega
    have y1 : y ≤ 8 := by omega
    have x0 : 0 ≤ x := by omega
    have x1 : x ≤ 16 := by omega
    have hzne : (z == 1) = false := beq_eq_false_iff_ne.2 (by omega)
    have k1 : IntKind.i64.wrap (x + y) = x + y := IntWalk.i64_in _ (by omega)
    have S0 : RootS w B v (L.map (Value.int .i64)) x z (w.alloc (.cells #[.int .i64 x, .int .i64 z] 49)).drew :=
      ⟨(Box.new w _ _).cell 0, (Box.new w _ _).cell 1, hr.below (bnew w _).drew hB, (bnew w _).drew, by show w.heap.size < (w.alloc _).heap.size; simp, by show B ≤ (w.alloc _).heap.size; simp; omega⟩
    have I1 := hid' (fun (W : World) (r : W.cell? ⟨w.heap.size, 0, none⟩ = some (.int .i64 x) ∧ W.cell? ⟨w.heap.size, 1, none⟩ = some (.int .i64 z) ∧ RootS w B v (L.map (Value.int .i64)) x z W) => ih a x y W r.2.2.2.2.1 r.2.2.2.2.2.2.2 (by omega) hx hy)
    have I2 := hid' (fun (W : World) (r : W.cell? ⟨w.heap.size, 0, none⟩ = some (.int .i64 x) ∧ W.cell? ⟨w.heap.size, 1, none⟩ = some (.int .i64 z) ∧ RootS w B v (L.map (Value.int .i64)) x z W) => ih (a + 2 ^ h) (x + y) y W r.2.2.2.2.1 r.2.2.2.2.2.2.2 (by omega) (by omega) hy)
    have d1 := rt_dig hd h a (by omega)
    have d2 := rt_dig hd h (a + 2 ^ h) (by omega)
    have HD := hid' (dpair_ok d1 d2)
    clear ih hx hy hz hpow hp0 d1 d2 hr
    go_enter Try.func50, Try.ntmps50
    go_wp2_with fail
    go_region_held3 (fun w' => w'.cell? ⟨w.heap.size, 0, none⟩ = some (.int .i64 x) ∧ w'.cell? ⟨w.heap.size, 1, none⟩ = some (.int .i64 z) ∧ RootS w B v (L.map (Value.int .i64)) x z w') (first | (exact root_step (by assumption) hb2) | (exact root_step (by assumption) hb1) | exact ⟨S0.1, S0.2.1, S0⟩ | assumption)
      ((first | (go_at_call_of 50 (x + y); refine (I2.out _ (by assumption)).mono ?_; rintro _ w2 ⟨rfl, hb2⟩) | (go_at_call 50; refine (I1.out _ (by assumption)).mono ?_; rintro _ w1 ⟨rfl, hb1⟩) | (go_at_call 53; refine (iDigestPair_any _ _ _).mono ?_; rintro _ _ ⟨rfl, rfl⟩)))
    go_wp2_with fail
    go_ret
    exact ⟨retI HD.out, root_bel (by assumption)⟩

theorem rt_congr {α : Type} (p : α → α → α) (f g : Nat → α) : ∀ (h a b : Nat), (∀ i, i < 2 ^ h → f (a + i) = g (b + i)) → rt p f h a = rt p g h b
  | 0, a, b, hh => by have := hh 0 (by decide); simpa [rt] using this
  | h + 1, a, b, hh => by
    have hp : 2 ^ (h + 1) = 2 * 2 ^ h := by rw [Nat.pow_succ, Nat.mul_comm]
    show p _ _ = p _ _
    rw [rt_congr p f g h a b fun i hi => hh i (by omega), rt_congr p f g h (a + 2 ^ h) (b + 2 ^ h) fun i hi => by
      have := hh (2 ^ h + i) (by omega)
      rwa [← Nat.add_assoc, ← Nat.add_assoc] at this]
theorem lf_take {L : List Int} {k i : Nat} (h : i < k) : lf (L.take k) i = lf L i := by
  unfold lf; rw [List.getD_eq_getElem?_getD, List.getD_eq_getElem?_getD, List.getElem?_take, if_pos h]
theorem lf_drop {L : List Int} {k i : Nat} : lf (L.drop k) i = lf L (k + i) := by
  unfold lf; rw [List.getD_eq_getElem?_getD, List.getD_eq_getElem?_getD, List.getElem?_drop]
theorem digs_take {L : List Int} (h : digs L = true) (k : Nat) : digs (L.take k) = true := by
  unfold digs at h ⊢
  rw [List.all_eq_true] at h ⊢
  exact fun x hx => h x (List.mem_of_mem_take hx)
theorem digs_drop {L : List Int} (h : digs L = true) (k : Nat) : digs (L.drop k) = true := by
  unfold digs at h ⊢
  rw [List.all_eq_true] at h ⊢
  exact fun x hx => h x (List.mem_of_mem_drop hx)

set_option maxHeartbeats 4000000 in
theorem l2Root_any (B : Nat) : ∀ (h : Nat) (b off cap n : Nat) (M : List Int) (w : World), RV w B (.slice (some ⟨b, off, none⟩) n cap) (M.map (Value.int .i64)) → digs M = true → h ≤ 4 → M.length = 2 ^ h → n = 2 ^ h →
    Calls Try.prog 49 #[.slice (some ⟨b, off, none⟩) n cap] w fun e w' => e = .returned (.int .i64 (rt pr (lf M) h 0)) ∧ ∃ m, w' = w.drewN m := by
  intro h
  induction h with
  | zero =>
    intro b off cap n M w hr hd hh hM hn
    have hn1 : n = 1 := hn
    subst hn1
    obtain ⟨A, cap', hv, hl, hm, hc⟩ := hr
    simp only [Value.slice.injEq] at hv
    obtain ⟨rfl, hlen, rfl⟩ := hv
    rw [List.length_map] at hl hc hlen
    have hlt : 0 < M.length := by omega
    obtain ⟨b', off', hA, hbB, hcell⟩ := hc hlt
    simp only [Option.some.injEq, Addr.mk.injEq, and_true] at hA
    obtain ⟨rfl, rfl⟩ := hA
    obtain ⟨y, hy, hyv⟩ := get_int hlt
    have hcx : w.cell? ⟨b, off, none⟩ = some (.int .i64 y) := hcell 0 _ hyv
    have H := hid' (lf_get hy)
    clear hcell hc hy hyv hn hM hlen
    go_enter Try.func49, Try.ntmps49
    go_wp2_with fail
    go_ret
    exact ⟨retI H.out.symm, 0, rfl⟩
  | succ h ih =>
    intro b off cap n M w hr hd hh hM hn
    obtain ⟨s, hs⟩ : ∃ s : Nat, s = 2 ^ h := ⟨_, rfl⟩
    have hpow : (2 : Nat) ^ (h + 1) = 2 * 2 ^ h := by rw [Nat.pow_succ, Nat.mul_comm]
    have hp0 : 0 < (2 : Nat) ^ h := Nat.pow_pos (by decide)
    have hp8 : (2 : Nat) ^ h ≤ 8 := by
      have : (2 : Nat) ^ h ≤ 2 ^ 3 := Nat.pow_le_pow_right (by decide) (by omega)
      simpa using this
    have hn2 : n = 2 * s := by omega
    have hcapn : n ≤ cap := by
      obtain ⟨A, cap', hv, hl, _⟩ := hr
      simp only [Value.slice.injEq] at hv
      obtain ⟨_, hlen, rfl⟩ := hv
      omega
    have hcapm : cap ≤ 9223372036854775807 := by
      obtain ⟨A, cap', hv, hl, hm, _⟩ := hr
      simp only [Value.slice.injEq] at hv
      obtain ⟨_, _, rfl⟩ := hv
      unfold maxLen at hm; omega
    have hny : (n : Int) / 2 = (s : Int) := by omega
    have hne : ((n : Int) == 1) = false := beq_eq_false_iff_ne.2 (by omega)
    have hsn : s < n := by omega
    have hscap : s < cap := by omega
    have s0 : 1 ≤ s := by omega
    have i1 : (s : Int) ≤ (cap : Int) := by omega
    have i2 : (s : Int) ≤ (n : Int) := by omega
    have i3 : (n : Int) ≤ (cap : Int) := by omega
    have i4 : s ≤ n := by omega
    have i5 : s ≤ cap := by omega
    have i6 : ¬ cap = s := by omega
    have s8 : s ≤ 8 := by omega
    have hml : (M.map (Value.int .i64)).length = n := by rw [List.length_map]; omega
    have R1 : RV w B (.slice (some ⟨b, off, none⟩) s cap) ((M.take s).map (Value.int .i64)) := by rw [List.map_take]; exact rv_take hr (by omega)
    have R2 : RV w B (.slice (some ⟨b, off + s, none⟩) (n - s) (cap - s)) ((M.drop s).map (Value.int .i64)) := by rw [List.map_drop]; exact rv_drop hr (by omega) rfl
    have d1 := rt_dig hd h 0 (by omega)
    have d2 := rt_dig hd h (2 ^ h) (by omega)
    have e1 : rt pr (lf (M.take s)) h 0 = rt pr (lf M) h 0 := rt_congr _ _ _ _ _ _ fun i hi => by rw [lf_take (by omega)]
    have e2 : rt pr (lf (M.drop s)) h 0 = rt pr (lf M) h (2 ^ h) := rt_congr _ _ _ _ _ _ fun i hi => by rw [lf_drop]; congr 1; omega
    have HE := hid' (show rt pr (lf M) (h + 1) 0 = pr (rt pr (lf M) h 0) (rt pr (lf M) h (2 ^ h)) by show pr _ (rt pr (lf M) h (0 + 2 ^ h)) = _; rw [Nat.zero_add])
    obtain ⟨r1, hr1⟩ : ∃ r, rt pr (lf M) h 0 = r := ⟨_, rfl⟩
    obtain ⟨r2, hr2⟩ : ∃ r, rt pr (lf M) h (2 ^ h) = r := ⟨_, rfl⟩
    have I1 := hid' (fun (k : Nat) => ih b off cap s (M.take s) (w.drewN k) R1 (digs_take hd s) (by omega) (by rw [List.length_take]; omega) hs)
    have I2 := hid' (fun (k : Nat) => ih b (off + s) (cap - s) (n - s) (M.drop s) (w.drewN k) R2 (digs_drop hd s) (by omega) (by rw [List.length_drop]; omega) (by omega))
    rw [e1, hr1] at I1
    rw [e2, hr2] at I2
    rw [hr1, hr2] at HE
    rw [hr1] at d1
    rw [hr2] at d2
    clear hr1 hr2
    obtain ⟨p0, p1⟩ := digB_true.1 d1
    obtain ⟨q0, q1⟩ := digB_true.1 d2
    clear ih hs hpow hp0 hp8 d1 d2 hr R1 R2 e1 e2 hn hM hml hn2
    go_enter Try.func49, Try.ntmps49
    go_wp2_with fail
    go_quiet ((first | (go_at_call_of 49 (off + s); with_reducible exact Calls.quiet_of (I2.out _)) | (go_at_call 49; go_must (exact Calls.quiet_of (I1.out _))) | (go_at_call 51; with_reducible exact quietL (l1Pair_any _ _ _ p0 (by omega) q0 (by omega)))))
    go_wp2_with fail
    go_ret
    exact ⟨retI HE.out.symm, _, rfl⟩
end Go.Proofs.Ytpbdehncmincaaa
