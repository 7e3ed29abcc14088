/- The walks of the roots of complete trees. -/
import Derived.Test.YtcocknfdafmfnaaTreeW
import Derived.Deep.DeepMust
namespace Go.Proofs.Ytcocknfdafmfnaa
set_option linter.unusedVariables false
open Go.RowKit


theorem rt_congr {α : Type} (p : α → α → α) (f g : Nat → α) : ∀ (h a b : Nat), (∀ i, i < 2 ^ h → f (a + i) = g (b + i)) → rt p f h a = rt p g h b
  | 0, a, b, hh => by have := hh 0 (by decide); simpa [rt] using this
  | h + 1, a, b, hh => by
    have hp : 2 ^ (h + 1) = 2 * 2 ^ h := by rw [Nat.pow_succ, Nat.mul_comm]
    show p _ _ = p _ _
    rw [rt_congr p f g h a b fun i hi => hh i (by omega), rt_congr p f g h (a + 2 ^ h) (b + 2 ^ h) fun i hi => by
      have := hh (2 ^ h + i) (by omega)
      rwa [← Nat.add_assoc, ← Nat.add_assoc] at this]
theorem lf_take {L : List Int} {k i : Nat} (h : i < k) : lf (L.take k) i = lf L i := by
  unfold lf; rw [List.getD_eq_getElem?_getD, List.getD_eq_getElem?_getD, List.getElem?_take, if_pos h]
theorem lf_drop {L : List Int} {k i : Nat} : lf (L.drop k) i = lf L (k + i) := by
  unfold lf; rw [List.getD_eq_getElem?_getD, List.getD_eq_getElem?_getD, List.getElem?_drop]
theorem digs_take {L : List Int} (h : digs L = true) (k : Nat) : digs (L.take k) = true := by
  unfold digs at h ⊢
  rw [List.all_eq_true] at h ⊢
  exact fun x hx => h x (List.mem_of_mem_take hx)
theorem digs_drop {L : List Int} (h : digs L = true) (k : Nat) : digs (L.drop k) = true := by
  unfold digs at h ⊢
  rw [List.all_eq_true] at h ⊢
  exact fun x hx => h x (List.mem_of_mem_drop hx)

set_option maxHeartbeats 4000000 in
theorem l2Root_any (B : Nat) : ∀ (h : Nat) (b off cap n : Nat) (M : List Int) (w : World), RV w B (.slice (some ⟨b, off, none⟩) n cap) (M.map (Value.int .i64)) → digs M = true → h ≤ 4 → M.length = 2 ^ h → n = 2 ^ h →
    Calls Try.prog 72 #[.slice (some ⟨b, off, none⟩) n cap] w fun e w' => e = .returned (.int .i64 (rt pr (lf M) h 0)) ∧ ∃ m, w' = w.drewN m := by
  intro h
  induction h with
  | zero =>
    intro b off cap n M w hr hd hh hM hn
    have hn1 : n = 1 := hn
    subst hn1
    obtain ⟨A, cap', hv, hl, hm, hc⟩ := hr
    simp only [Value.slice.injEq] at hv
    obtain ⟨rfl, hlen, rfl⟩ := hv
    rw [List.length_map] at hl hc hlen
    have hlt : 0 < M.length := by omega
    obtain ⟨b', off', hA, hbB, hcell⟩ := hc hlt
    simp only [Option.some.injEq, Addr.mk.injEq, and_true] at hA
    obtain ⟨rfl, rfl⟩ := hA
    obtain ⟨y, hy, hyv⟩ := get_int hlt
    have hcx : w.cell? ⟨b, off, none⟩ = some (.int .i64 y) := hcell 0 _ hyv
    have H := hid' (lf_get hy)
    clear hcell hc hy hyv hn hM hlen
    go_enter Try.func72, Try.ntmps72
    go_wp2_with fail
    go_ret
    exact ⟨retI H.out.symm, 0, rfl⟩
  | succ h ih =>
    intro b off cap n M w hr hd hh hM hn
    obtain ⟨s, hs⟩ : ∃ s : Nat, s = 2 ^ h := ⟨_, rfl⟩
    have hpow : (2 : Nat) ^ (h + 1) = 2 * 2 ^ h := by rw [Nat.pow_succ, Nat.mul_comm]
    have hp0 : 0 < (2 : Nat) ^ h := Nat.pow_pos (by decide)
    have hp8 : (2 : Nat) ^ h ≤ 8 := by
      have : (2 : Nat) ^ h ≤ 2 ^ 3 := Nat.pow_le_pow_right (by decide) (by omega)
      simpa using this
    have hn2 : n = 2 * s := by omega
    have hcapn : n ≤ cap := by
      obtain ⟨A, cap', hv, hl, _⟩ := hr
      simp only [Value.slice.injEq] at hv
      obtain ⟨_, hlen, rfl⟩ := hv
      omega
    have hcapm : cap ≤ 9223372036854775807 := by
      obtain ⟨A, cap', hv, hl, hm, _⟩ := hr
      simp only [Value.slice.injEq] at hv
      obtain ⟨_, _, rfl⟩ := hv
      unfold maxLen at hm; omega
    have hny : (n : Int) / 2 = (s : Int) := by omega
    have hne : ((n : Int) == 1) = false := beq_eq_false_iff_ne.2 (by omega)
    have hsn : s < n := by omega
    have hscap : s < cap := by omega
    have s0 : 1 ≤ s := by omega
    have i1 : (s : Int) ≤ (cap : Int) := by omega
    have i2 : (s : Int) ≤ (n : Int) := by omega
    have i3 : (n : Int) ≤ (cap : Int) := by omega
    have i4 : s ≤ n := by omega
    have i5 : s ≤ cap := by omega
    have i6 : ¬ cap = s := by omega
    have s8 : s ≤ 8 := by omega
    have hml : (M.map (Value.int .i64)).length = n := by rw [List.length_map]; omega
    have R1 : RV w B (.slice (some ⟨b, off, none⟩) s cap) ((M.take s).map (Value.int .i64)) := by rw [List.map_take]; exact rv_take hr (by omega)
    have R2 : RV w B (.slice (some ⟨b, off + s, none⟩) (n - s) (cap - s)) ((M.drop s).map (Value.int .i64)) := by rw [List.map_drop]; exact rv_drop hr (by omega) rfl
    have d1 := rt_dig hd h 0 (by omega)
    have d2 := rt_dig hd h (2 ^ h) (by omega)
    have e1 : rt pr (lf (M.take s)) h 0 = rt pr (lf M) h 0 := rt_congr _ _ _ _ _ _ fun i hi => by rw [lf_take (by omega)]
    have e2 : rt pr (lf (M.drop s)) h 0 = rt pr (lf M) h (2 ^ h) := rt_congr _ _ _ _ _ _ fun i hi => by rw [lf_drop]; congr 1; omega
    have HE := hid' (show rt pr (lf M) (h + 1) 0 = pr (rt pr (lf M) h 0) (rt pr (lf M) h (2 ^ h)) by show pr _ (rt pr (lf M) h (0 + 2 ^ h)) = _; rw [Nat.zero_add])
    obtain ⟨r1, hr1⟩ : ∃ r, rt pr (lf M) h 0 = r := ⟨_, rfl⟩
    obtain ⟨r2, hr2⟩ : ∃ r, rt pr (lf M) h (2 ^ h) = r := ⟨_, rfl⟩
    have I1 := hid' (fun (k : Nat) => ih b off cap s (M.take s) (w.drewN k) R1 (digs_take hd s) (by omega) (by rw [List.length_take]; omega) hs)
    have I2 := hid' (fun (k : Nat) => ih b (off + s) (cap - s) (n - s) (M.drop s) (w.drewN k) R2 (digs_drop hd s) (by omega) (by rw [List.length_drop]; omega) (by omega))
    rw [e1, hr1] at I1
    rw [e2, hr2] at I2
    rw [hr1, hr2] at HE
    rw [hr1] at d1
    rw [hr2] at d2
    clear hr1 hr2
    obtain ⟨p0, p1⟩ := digB_true.1 d1
    obtain ⟨q0, q1⟩ := digB_true.1 d2
    clear ih hs hpow hp0 hp8 d1 d2 hr R1 R2 e1 e2 hn hM hml hn2
    go_enter Try.func72, Try.ntmps72
    go_wp2_with fail
    go_quiet ((first | (go_at_call_of 72 (off + s); with_reducible exact Calls.quiet_of (I2.out _)) | (go_at_call 72; go_must (exact Calls.quiet_of (I1.out _))) | (go_at_call 51; with_reducible exact quietL (l1Pair_any _ _ _ p0 (by omega) q0 (by omega)))))
    go_wp2_with fail
    go_ret
    exact ⟨retI HE.out.symm, _, rfl⟩
end Go.Proofs.Ytcocknfdafmfnaa
