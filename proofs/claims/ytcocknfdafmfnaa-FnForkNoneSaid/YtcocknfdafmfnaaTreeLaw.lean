/- Plain laws on trees: proofs, growth, changes. No program in sight. -/
import Derived.Test.YtcocknfdafmfnaaRel
namespace Go.Proofs.Ytcocknfdafmfnaa
set_option linter.unusedVariables false

theorem dig_of {L : List Int} (hd : digs L = true) : ∀ n ∈ L, 0 ≤ n ∧ n ≤ 990 := fun n hn => by
  unfold digs at hd; exact digB_true.1 (List.all_eq_true.1 hd n hn)
theorem set_len {L : List Int} {k : Nat} {z : Int} : (L.set k z).length = L.length := List.length_set
/-- a changed leaf changes the digest -/
theorem change_leaf {L : List Int} {k : Nat} {z : Int} (hd : digs L = true) (h16 : L.length ≤ 16) (hk : k < L.length) (hz : 0 ≤ z ∧ z ≤ 990) (hn : z ≠ lf L k) : foldD L.length (peaks L) ≠ foldD L.length (peaks (L.set k z)) := by
  have hy := RT_leaf hd hk hz hn
  have h1 : RT ((rts tp (tx k) (tr 0 L.length)).foldl tp 0) ((rts q2 (fun i => (lf L i, lf (L.set k z) i)) (tr 0 L.length)).foldl q2 ((L.length : Int), (L.length : Int))) :=
    LR_fold RT_p (rts_rel RT_p hy _) (RT_0 ⟨by omega, by omega⟩)
  have h2 : R1 ((rts q2 (fun i => (lf L i, lf (L.set k z) i)) (tr 0 L.length)).foldl q2 ((L.length : Int), (L.length : Int))) ((rts pr (lf L) (tr 0 L.length)).foldl pr (L.length : Int)) :=
    LR_fold R1_p (rts_rel R1_p (fun i => rfl) _) rfl
  have h3 : R2 ((rts q2 (fun i => (lf L i, lf (L.set k z) i)) (tr 0 L.length)).foldl q2 ((L.length : Int), (L.length : Int))) ((rts pr (lf (L.set k z)) (tr 0 L.length)).foldl pr (L.length : Int)) :=
    LR_fold R2_p (rts_rel R2_p (fun i => rfl) _) rfl
  have h4 : (rts tp (tx k) (tr 0 L.length)).foldl tp 0 = 1 := by
    have : ∀ n : Fin 17, ∀ k : Fin 16, k.1 < n.1 → (rts tp (tx k.1) (tr 0 n.1)).foldl tp 0 = 1 := by decide +kernel
    exact this ⟨L.length, by omega⟩ ⟨k, by omega⟩ hk
  have h5 := h1.2.2 h4
  unfold R1 at h2
  unfold R2 at h3
  unfold foldD peaks
  rw [set_len, ← h2, ← h3]; exact h5

theorem proofLen_ok (n i : Nat) (hn : n ≤ 16) (hi : i < n) : (proofOf (fun a b : Nat => a) (fun i => i) n i).length = proofLen n i := by
  have : ∀ n : Fin 17, ∀ i : Fin 16, i.1 < n.1 → (proofOf (fun a b : Nat => a) (fun i => i) n.1 i.1).length = proofLen n.1 i.1 := by decide +kernel
  exact this ⟨n, by omega⟩ ⟨i, by omega⟩ hi
theorem proofOf_len {α : Type} (p : α → α → α) (x : Nat → α) (n i : Nat) (hn : n ≤ 16) (hi : i < n) : (proofOf p x n i).length = proofLen n i := by
  rw [← proofLen_ok n i hn hi]
  exact (LR_len (proofOf_rel (R := fun (_ : Nat) (_ : α) => True) (p := fun a b : Nat => a) (q := p) (x := fun i => i) (y := x) (fun _ _ _ _ _ _ => trivial) (fun _ => trivial) n i)).symm
theorem proofLen_le (n i : Nat) (hn : n ≤ 16) (hi : i < n) : proofLen n i ≤ 6 ∧ (proofLen n i = 0 → n = 1) := by
  have : ∀ n : Fin 17, ∀ i : Fin 16, i.1 < n.1 → proofLen n.1 i.1 ≤ 6 ∧ (proofLen n.1 i.1 = 0 → n.1 = 1) := by decide +kernel
  exact this ⟨n, by omega⟩ ⟨i, by omega⟩ hi
theorem LR_digs {f : List Int} (h : ∀ n ∈ f, 0 ≤ n ∧ n ≤ 990) : digs f = true := by
  unfold digs; rw [List.all_eq_true]; exact fun n hn => digB_true.2 (h n hn)
theorem rt_bd {L : List Int} (hd : digs L = true) : ∀ (h a : Nat), 0 ≤ rt pr (lf L) h a ∧ rt pr (lf L) h a ≤ 990
  | 0, a => lf_dig hd a
  | h + 1, a => ⟨pr_nonneg _ _, pr_le _ _⟩
theorem rts_digs {L : List Int} (hd : digs L = true) (D : List (Nat × Nat)) : digs (rts pr (lf L) D) = true := LR_digs fun n hn => by
  unfold rts at hn
  obtain ⟨t, _, rfl⟩ := List.mem_map.1 hn
  exact rt_bd hd _ _
theorem proofOf_digs {L : List Int} (hd : digs L = true) (n i : Nat) : digs (proofOf pr (lf L) n i) = true := LR_digs fun x hx => by
  unfold proofOf at hx
  rcases List.mem_append.1 hx with h | h
  · obtain ⟨j, _, rfl⟩ := List.mem_map.1 h; exact rt_bd hd _ _
  · exact dig_of (rts_digs hd _) x h
theorem climb_congr {α : Type} (p : α → α → α) (i : Nat) (r : α) {y y' : Nat → α} : ∀ j, (∀ k, k < j → y k = y' k) → climb p i y r j = climb p i y' r j
  | 0, _ => rfl
  | j + 1, h => by
    unfold climb
    rw [h j (by omega), climb_congr p i r j fun k hk => h k (by omega)]
theorem getD_z {α : Type} {l : List α} {k : Nat} {z z' : α} (h : k < l.length) : l.getD k z = l.getD k z' := by
  rw [List.getD_eq_getElem?_getD, List.getD_eq_getElem?_getD, List.getElem?_eq_getElem h]; rfl
theorem checkVal_z {α : Type} (p : α → α → α) (c : α) (n i : Nat) (leaf : α) (l : List α) (z z' : α) (h : l.length = proofLen n i) : checkVal p c n i leaf l z = checkVal p c n i leaf l z' := by
  unfold checkVal
  unfold proofLen at h
  dsimp only
  rw [climb_congr p i leaf _ fun k hk => getD_z (z := z) (z' := z') (by omega)]
/-- a proof leads to the digest -/
theorem proof_ok {L : List Int} (n i : Nat) (hn : n ≤ 16) (hi : i < n) (c : Int) : checkVal pr c n i (lf L i) (proofOf pr (lf L) n i) 0 = foldD c (rts pr (lf L) (tr 0 n)) := by
  have T : ∀ n : Fin 17, ∀ i : Fin 16, i.1 < n.1 → (checkVal Tm.p (.v 0) n.1 i.1 (tv i.1) (proofOf Tm.p tv n.1 i.1) (.v 0)).same ((rts Tm.p tv (tr 0 n.1)).foldl Tm.p (.v 0)) = true := by decide +kernel
  have e := Tm.same_eq (T ⟨n, by omega⟩ ⟨i, by omega⟩ hi)
  have hp := RM_p c (lf L)
  have h1 : RM c (lf L) (checkVal Tm.p (.v 0) n i (tv i) (proofOf Tm.p tv n i) (.v 0)) (checkVal pr c n i (lf L i) (proofOf pr (lf L) n i) c) :=
    checkVal_rel hp n i rfl (RM_v c (lf L) i) rfl (proofOf_rel hp (RM_v c (lf L)) n i)
  have h2 : RM c (lf L) ((rts Tm.p tv (tr 0 n)).foldl Tm.p (.v 0)) ((rts pr (lf L) (tr 0 n)).foldl pr c) := LR_fold hp (rts_rel hp (RM_v c (lf L)) _) rfl
  unfold RM at h1 h2
  rw [show checkVal pr c n i (lf L i) (proofOf pr (lf L) n i) 0 = checkVal pr c n i (lf L i) (proofOf pr (lf L) n i) c from ?_]
  · rw [← h1, e, h2]; rfl
  · have hl := proofOf_len pr (lf L) n i hn hi
    have Z := checkVal_z pr c n i (lf L i) (proofOf pr (lf L) n i) 0 c hl
    exact Z

/-- the pairs of a list and a changed one -/
def twins (l m : List Int) : List (Int × Int) := (List.range l.length).map fun j => (lf l j, lf m j)
theorem twins_1 (l m : List Int) : LR R1 (twins l m) l := by
  have h : LR R1 (twins l m) ((List.range l.length).map (lf l)) := LR_map _ fun j => rfl
  rwa [list_lf] at h
theorem twins_2 {l m : List Int} (hl : m.length = l.length) : LR R2 (twins l m) m := by
  have h : LR R2 (twins l m) ((List.range l.length).map (lf m)) := LR_map _ fun j => rfl
  rwa [← hl, list_lf] at h
theorem twins_t {l : List Int} {k : Nat} {z : Int} (hd : digs l = true) (hk : k < l.length) (hz : 0 ≤ z ∧ z ≤ 990) (hn : z ≠ lf l k) : LR RT ((List.range l.length).map (tx k)) (twins l (l.set k z)) :=
  LR_map _ fun j => RT_leaf hd hk hz hn j
theorem twins_0 {l : List Int} (hd : digs l = true) : LR RT ((List.range l.length).map fun _ => 0) (twins l l) := LR_map _ fun j => RT_0 (lf_dig hd j)

/-- another leaf leads to another digest -/
theorem check_leaf {l : List Int} {c x y : Int} (n i : Nat) (hn : n ≤ 16) (hi : i < n) (hd : digs l = true) (hl : l.length = proofLen n i) (hc : 0 ≤ c ∧ c ≤ 990) (hx : 0 ≤ x ∧ x ≤ 990) (hy : 0 ≤ y ∧ y ≤ 990) (hxy : x ≠ y) : checkVal pr c n i x l 0 ≠ checkVal pr c n i y l 0 := by
  have h1 : RT (checkVal tp 0 n i 1 ((List.range l.length).map fun _ => 0) 0) (checkVal q2 (c, c) n i (x, y) (twins l l) (0, 0)) :=
    checkVal_rel RT_p n i (RT_0 hc) (RT_1 hx hy hxy) (RT_0 ⟨by omega, by omega⟩) (twins_0 hd)
  have h2 : R1 (checkVal q2 (c, c) n i (x, y) (twins l l) (0, 0)) (checkVal pr c n i x l 0) := checkVal_rel R1_p n i rfl rfl rfl (twins_1 l l)
  have h3 : R2 (checkVal q2 (c, c) n i (x, y) (twins l l) (0, 0)) (checkVal pr c n i y l 0) := checkVal_rel R2_p n i rfl rfl rfl (twins_2 rfl)
  have h4 : checkVal tp 0 n i 1 ((List.range l.length).map fun _ => 0) 0 = 1 := by
    have : ∀ n : Fin 17, ∀ i : Fin 16, i.1 < n.1 → checkVal tp 0 n.1 i.1 1 ((List.range (proofLen n.1 i.1)).map fun _ => 0) 0 = 1 := by decide +kernel
    rw [hl]; exact this ⟨n, by omega⟩ ⟨i, by omega⟩ hi
  have h5 := h1.2.2 h4
  unfold R1 at h2
  unfold R2 at h3
  rw [← h2, ← h3]; exact h5
/-- a changed proof leads to another digest -/
theorem check_proof {l : List Int} {c x z : Int} {k : Nat} (n i : Nat) (hn : n ≤ 16) (hi : i < n) (hd : digs l = true) (hl : l.length = proofLen n i) (hk : k < l.length) (hc : 0 ≤ c ∧ c ≤ 990) (hx : 0 ≤ x ∧ x ≤ 990) (hz : 0 ≤ z ∧ z ≤ 990) (hn2 : z ≠ lf l k) : checkVal pr c n i x l 0 ≠ checkVal pr c n i x (l.set k z) 0 := by
  have h1 : RT (checkVal tp 0 n i 0 ((List.range l.length).map (tx k)) 0) (checkVal q2 (c, c) n i (x, x) (twins l (l.set k z)) (0, 0)) :=
    checkVal_rel RT_p n i (RT_0 hc) (RT_0 hx) (RT_0 ⟨by omega, by omega⟩) (twins_t hd hk hz hn2)
  have h2 : R1 (checkVal q2 (c, c) n i (x, x) (twins l (l.set k z)) (0, 0)) (checkVal pr c n i x l 0) := checkVal_rel R1_p n i rfl rfl rfl (twins_1 l _)
  have h3 : R2 (checkVal q2 (c, c) n i (x, x) (twins l (l.set k z)) (0, 0)) (checkVal pr c n i x (l.set k z) 0) := checkVal_rel R2_p n i rfl rfl rfl (twins_2 set_len)
  have h4 : checkVal tp 0 n i 0 ((List.range l.length).map (tx k)) 0 = 1 := by
    have : ∀ n : Fin 17, ∀ i : Fin 16, i.1 < n.1 → ∀ k : Fin 7, k.1 < proofLen n.1 i.1 → checkVal tp 0 n.1 i.1 0 ((List.range (proofLen n.1 i.1)).map (tx k.1)) 0 = 1 := by decide +kernel
    have h6 := (proofLen_le n i hn hi).1
    rw [hl] at hk ⊢; exact this ⟨n, by omega⟩ ⟨i, by omega⟩ hi ⟨k, by omega⟩ hk
  have h5 := h1.2.2 h4
  unfold R1 at h2
  unfold R2 at h3
  rw [← h2, ← h3]; exact h5

/-- the digest that a proof of growth leads to -/
def gval (m n : Nat) (c : Int) (l : List Int) : Int := foldD c (gpeaks pr m n l 0)
def gcheck (m old n d : Int) (l : List Int) : Bool :=
  inB n 0 16 && inB m 0 n && digs l && decide (l.length = (grow m.toNat n.toNat).length) && (foldD m (l.take (tr 0 m.toNat).length) == old) && (gval m.toNat n.toNat n l == d)
theorem grow_len (m n : Nat) (hn : n ≤ 16) (hm : m ≤ n) : (grow m n).length ≤ 9 ∧ (tr 0 m).length ≤ (grow m n).length ∧ ((grow m n).length = 0 → n = 0) := by
  have : ∀ n : Fin 17, ∀ m : Fin 17, m.1 ≤ n.1 → (grow m.1 n.1).length ≤ 9 ∧ (tr 0 m.1).length ≤ (grow m.1 n.1).length ∧ ((grow m.1 n.1).length = 0 → n.1 = 0) := by decide +kernel
  exact this ⟨n, by omega⟩ ⟨m, by omega⟩ hm
theorem rts_app {α : Type} (p : α → α → α) (x : Nat → α) (D E : List (Nat × Nat)) : rts p x (D ++ E) = rts p x D ++ rts p x E := List.map_append
theorem growth_ok (x : Nat → Int) (m n : Nat) (hn : n ≤ 16) (hm : m ≤ n) : gpeaks pr m n (rts pr x (grow m n)) 0 = rts pr x (tr 0 n) := by
  have T : ∀ n : Fin 17, ∀ m : Fin 17, m.1 ≤ n.1 → Tm.all (gpeaks Tm.p m.1 n.1 (rts Tm.p tv (grow m.1 n.1)) (.v 0)) (rts Tm.p tv (tr 0 n.1)) = true := by decide +kernel
  have e := Tm.all_eq (T ⟨n, by omega⟩ ⟨m, by omega⟩ hm)
  have hp := RM_p 0 x
  have h1 : LR (RM 0 x) (gpeaks Tm.p m n (rts Tm.p tv (grow m n)) (.v 0)) (gpeaks pr m n (rts pr x (grow m n)) 0) := gpeaks_rel hp m n rfl (rts_rel hp (RM_v 0 x) _)
  have h2 : LR (RM 0 x) (rts Tm.p tv (tr 0 n)) (rts pr x (tr 0 n)) := rts_rel hp (RM_v 0 x) _
  rw [e] at h1
  exact LR_RM h1 h2
/-- a changed proof of growth leads to another digest -/
theorem growth_change {l : List Int} {c z : Int} {k : Nat} (m n : Nat) (hn : n ≤ 16) (hm : m ≤ n) (hd : digs l = true) (hl : l.length = (grow m n).length) (hk : k < l.length) (hc : 0 ≤ c ∧ c ≤ 990) (hz : 0 ≤ z ∧ z ≤ 990) (hn2 : z ≠ lf l k) : gval m n c l ≠ gval m n c (l.set k z) := by
  have h1 : RT ((gpeaks tp m n ((List.range l.length).map (tx k)) 0).foldl tp 0) ((gpeaks q2 m n (twins l (l.set k z)) (0, 0)).foldl q2 (c, c)) :=
    LR_fold RT_p (gpeaks_rel RT_p m n (RT_0 ⟨by omega, by omega⟩) (twins_t hd hk hz hn2)) (RT_0 hc)
  have h2 : R1 ((gpeaks q2 m n (twins l (l.set k z)) (0, 0)).foldl q2 (c, c)) ((gpeaks pr m n l 0).foldl pr c) := LR_fold R1_p (gpeaks_rel R1_p m n rfl (twins_1 l _)) rfl
  have h3 : R2 ((gpeaks q2 m n (twins l (l.set k z)) (0, 0)).foldl q2 (c, c)) ((gpeaks pr m n (l.set k z) 0).foldl pr c) := LR_fold R2_p (gpeaks_rel R2_p m n rfl (twins_2 set_len)) rfl
  have h4 : (gpeaks tp m n ((List.range l.length).map (tx k)) 0).foldl tp 0 = 1 := by
    have : ∀ n : Fin 17, ∀ m : Fin 17, m.1 ≤ n.1 → ∀ k : Fin 9, k.1 < (grow m.1 n.1).length → (gpeaks tp m.1 n.1 ((List.range (grow m.1 n.1).length).map (tx k.1)) 0).foldl tp 0 = 1 := by decide +kernel
    have h6 := (grow_len m n hn hm).1
    rw [hl] at hk ⊢; exact this ⟨n, by omega⟩ ⟨m, by omega⟩ hm ⟨k, by omega⟩ hk
  have h5 := h1.2.2 h4
  unfold R1 at h2
  unfold R2 at h3
  unfold gval foldD
  rw [← h2, ← h3]; exact h5
theorem LR_rev {α β : Type} {R : α → β → Prop} : ∀ {l : List α} {m : List β}, LR R l m → LR R l.reverse m.reverse
  | [], [], _ => trivial
  | a :: l, b :: m, h => by
    rw [List.reverse_cons, List.reverse_cons]
    exact LR_app (LR_rev h.2) ⟨h.1, trivial⟩
  | [], _ :: _, h => h.elim
  | _ :: _, [], h => h.elim
theorem LR_snd {α β : Type} {R : α → β → Prop} : ∀ {l : List (Nat × α)} {m : List (Nat × β)}, LR (SR R) l m → LR R (l.map (·.2)) (m.map (·.2))
  | [], [], _ => trivial
  | a :: l, b :: m, h => ⟨h.1.2, LR_snd h.2⟩
  | [], _ :: _, h => h.elim
  | _ :: _, [], h => h.elim
/-- the reference's stack has the same peaks -/
theorem merge_ok (l : List Int) (m n : Nat) (hn : n ≤ 16) (hm : m ≤ n) (hl : l.length = (grow m n).length) : ((mergeF pr ((grow m n).map (·.2)) l 0 []).reverse).map (·.2) = gpeaks pr m n l 0 := by
  have T : ∀ n : Fin 17, ∀ m : Fin 17, m.1 ≤ n.1 → Tm.all (((mergeF Tm.p ((grow m.1 n.1).map (·.2)) ((List.range (grow m.1 n.1).length).map tv) 0 []).reverse).map (·.2)) (gpeaks Tm.p m.1 n.1 ((List.range (grow m.1 n.1).length).map tv) (.v 0)) = true := by decide +kernel
  have e := Tm.all_eq (T ⟨n, by omega⟩ ⟨m, by omega⟩ hm)
  have hp := RM_p 0 (lf l)
  have hL : LR (RM 0 (lf l)) ((List.range (grow m n).length).map tv) l := by
    have h : LR (RM 0 (lf l)) ((List.range l.length).map tv) ((List.range l.length).map (lf l)) := LR_map _ fun j => RM_v 0 (lf l) j
    rw [list_lf] at h; rwa [← hl]
  have h1 := LR_snd (LR_rev (mergeF_rel hp ((grow m n).map (·.2)) _ l 0 [] [] hL trivial))
  have h2 : LR (RM 0 (lf l)) (gpeaks Tm.p m n ((List.range (grow m n).length).map tv) (.v 0)) (gpeaks pr m n l 0) := gpeaks_rel hp m n rfl hL
  rw [e] at h1
  exact LR_RM h1 h2

theorem lf_take_set {L : List Int} {k j : Nat} (h : j < k) : lf (L.take k) j = lf L j := by
  unfold lf; rw [List.getD_eq_getElem?_getD, List.getD_eq_getElem?_getD, List.getElem?_take, if_pos h]
theorem rt_congr' {α : Type} (p : α → α → α) (f g : Nat → α) : ∀ (h a : Nat), (∀ i, i < a + 2 ^ h → f i = g i) → rt p f h a = rt p g h a
  | 0, a, hh => hh a (by simp)
  | h + 1, a, hh => by
    have hp : 2 ^ (h + 1) = 2 * 2 ^ h := by rw [Nat.pow_succ, Nat.mul_comm]
    show p _ _ = p _ _
    rw [rt_congr' p f g h a fun i hi => hh i (by omega), rt_congr' p f g h (a + 2 ^ h) fun i hi => hh i (by omega)]
theorem tr_in (a n : Nat) (ha : a ≤ 16) (hn : n ≤ 16) {t : Nat × Nat} (h : t ∈ tr a n) : t.1 + 2 ^ t.2 ≤ n := by
  have H : ∀ a : Fin 17, ∀ n : Fin 17, (tr a.1 n.1).all (fun t => decide (t.1 + 2 ^ t.2 ≤ n.1)) = true := by decide +kernel
  exact of_decide_eq_true (List.all_eq_true.1 (H ⟨a, by omega⟩ ⟨n, by omega⟩) t h)
theorem rts_congr {α : Type} (p : α → α → α) (f g : Nat → α) (a n : Nat) (ha : a ≤ 16) (hn : n ≤ 16) (h : ∀ i, i < n → f i = g i) : rts p f (tr a n) = rts p g (tr a n) :=
  List.map_congr_left fun t ht => rt_congr' p f g _ _ fun i hi => h i (Nat.lt_of_lt_of_le hi (tr_in a n ha hn ht))
theorem peaks_take {L : List Int} (k : Nat) (hk : k ≤ L.length) (h16 : L.length ≤ 16) : peaks (L.take k) = rts pr (lf L) (tr 0 k) := by
  unfold peaks
  rw [List.length_take, Nat.min_eq_left hk]
  exact rts_congr _ _ _ 0 k (by omega) (by omega) fun i hi => lf_take_set hi
theorem peaks_grow {L : List Int} (x : Int) (h16 : L.length < 16) (h2 : L.length % 2 = 0) : peaks (L ++ [x]) = peaks L ++ [x] := by
  have T : ∀ n : Fin 16, n.1 % 2 = 0 → tr 0 (n.1 + 1) = tr 0 n.1 ++ [(n.1, 0)] := by decide +kernel
  unfold peaks
  rw [List.length_append, List.length_singleton, T ⟨L.length, h16⟩ h2, rts_app]
  rw [rts_congr pr (lf (L ++ [x])) (lf L) 0 L.length (by omega) (by omega) fun i hi => ?_]
  · show _ ++ [lf (L ++ [x]) L.length] = _
    unfold lf; rw [List.getD_eq_getElem?_getD, List.getElem?_append_right (by omega), Nat.sub_self]; rfl
  · unfold lf; rw [List.getD_eq_getElem?_getD, List.getD_eq_getElem?_getD, List.getElem?_append_left hi]
theorem one_peak (n : Nat) (hn : n ≤ 16) (h1 : (tr 0 n).length = 1) : ∃ h, h ≤ 4 ∧ n = 2 ^ h ∧ tr 0 n = [(0, h)] := by
  have T : ∀ n : Fin 17, (tr 0 n.1).length = 1 → ∃ h : Fin 5, n.1 = 2 ^ h.1 ∧ tr 0 n.1 = [(0, h.1)] := by decide +kernel
  obtain ⟨h, e1, e2⟩ := T ⟨n, by omega⟩ h1
  exact ⟨h.1, by omega, e1, e2⟩
theorem tr_pow (h : Nat) (hh : h ≤ 4) : tr 0 (2 ^ h) = [(0, h)] := by
  have T : ∀ h : Fin 5, tr 0 (2 ^ h.1) = [(0, h.1)] := by decide +kernel
  exact T ⟨h, by omega⟩
theorem lf_drop_' {L : List Int} {k i : Nat} : lf (L.drop k) i = lf L (k + i) := by
  unfold lf; rw [List.getD_eq_getElem?_getD, List.getD_eq_getElem?_getD, List.getElem?_drop]
theorem rt_shift {α : Type} (p : α → α → α) (f g : Nat → α) (k : Nat) (hfg : ∀ i, f i = g (k + i)) : ∀ (h a : Nat), rt p f h a = rt p g h (k + a)
  | 0, a => hfg a
  | h + 1, a => by
    show p _ _ = p _ _
    rw [rt_shift p f g k hfg h a, rt_shift p f g k hfg h (a + 2 ^ h), Nat.add_assoc]
/-- one peak joins the peaks of two halves -/
theorem peaks_join {L : List Int} (h16 : L.length ≤ 16) (h2 : 2 ≤ L.length) (h1 : (peaks L).length = 1) :
    ∃ a b : Int, peaks (L.take (L.length / 2)) = [a] ∧ peaks (L.drop (L.length / 2)) = [b] ∧ peaks L = [pr a b] := by
  have h1' : (tr 0 L.length).length = 1 := by unfold peaks rts at h1; rwa [List.length_map] at h1
  obtain ⟨h, hh, hn, ht⟩ := one_peak L.length h16 h1'
  cases h with
  | zero => rw [hn] at h2; exact absurd h2 (by decide)
  | succ h =>
    have hp : 2 ^ (h + 1) = 2 * 2 ^ h := by rw [Nat.pow_succ, Nat.mul_comm]
    have hk : L.length / 2 = 2 ^ h := by omega
    refine ⟨rt pr (lf L) h 0, rt pr (lf L) h (0 + 2 ^ h), ?_, ?_, ?_⟩
    · rw [peaks_take _ (by omega) h16, hk, tr_pow h (by omega)]; rfl
    · unfold peaks
      rw [List.length_drop, show L.length - L.length / 2 = 2 ^ h by omega, hk, tr_pow h (by omega)]
      show [rt pr (lf (L.drop (2 ^ h))) h 0] = _
      rw [rt_shift pr (lf (L.drop (2 ^ h))) (lf L) (2 ^ h) (fun i => lf_drop_') h 0, Nat.add_comm]
    · unfold peaks; rw [ht]; rfl
end Go.Proofs.Ytcocknfdafmfnaa
