/- Plain lemmas: the functions on trees over two carriers with a relation between them; terms; marks of what has changed. No program in sight. -/
import Derived.Test.YtcocknfdafmfnaaTree
import Derived.Test.YtcocknfdafmfnaaPlainA
namespace Go.Proofs.Ytcocknfdafmfnaa
set_option linter.unusedVariables false

/-- two lists, element by element -/
def LR {α β : Type} (R : α → β → Prop) : List α → List β → Prop
  | [], [] => True
  | a :: l, b :: m => R a b ∧ LR R l m
  | _, _ => False
section
variable {α β : Type} {R : α → β → Prop}
theorem LR_app : ∀ {l l' : List α} {m m' : List β}, LR R l m → LR R l' m' → LR R (l ++ l') (m ++ m')
  | [], _, [], _, _, h => h
  | _ :: _, _, _ :: _, _, h, h' => ⟨h.1, LR_app h.2 h'⟩
  | [], _, _ :: _, _, h, _ => h.elim
  | _ :: _, _, [], _, h, _ => h.elim
theorem LR_map {γ : Type} {f : γ → α} {g : γ → β} : ∀ (l : List γ), (∀ c, R (f c) (g c)) → LR R (l.map f) (l.map g)
  | [], _ => trivial
  | c :: l, h => ⟨h c, LR_map l h⟩
theorem LR_len : ∀ {l : List α} {m : List β}, LR R l m → l.length = m.length
  | [], [], _ => rfl
  | _ :: _, _ :: _, h => by have := LR_len h.2; simp [this]
  | [], _ :: _, h => h.elim
  | _ :: _, [], h => h.elim
theorem LR_getD {z : α} {z' : β} (hz : R z z') : ∀ {l : List α} {m : List β} (i : Nat), LR R l m → R (l.getD i z) (m.getD i z')
  | [], [], _, _ => hz
  | _ :: _, _ :: _, 0, h => h.1
  | _ :: _, _ :: _, i + 1, h => LR_getD hz i h.2
  | [], _ :: _, _, h => h.elim
  | _ :: _, [], _, h => h.elim
theorem LR_take : ∀ {l : List α} {m : List β} (k : Nat), LR R l m → LR R (l.take k) (m.take k)
  | _, _, 0, _ => trivial
  | [], [], _ + 1, _ => trivial
  | _ :: _, _ :: _, k + 1, h => ⟨h.1, LR_take k h.2⟩
  | [], _ :: _, _, h => h.elim
  | _ :: _, [], _, h => h.elim
theorem LR_drop : ∀ {l : List α} {m : List β} (k : Nat), LR R l m → LR R (l.drop k) (m.drop k)
  | _, _, 0, h => h
  | [], [], _ + 1, _ => trivial
  | _ :: _, _ :: _, k + 1, h => LR_drop k h.2
  | [], _ :: _, _, h => h.elim
  | _ :: _, [], _, h => h.elim
variable {p : α → α → α} {q : β → β → β} {x : Nat → α} {y : Nat → β} (hp : ∀ a b a' b', R a b → R a' b' → R (p a a') (q b b'))
include hp
theorem LR_fold' : ∀ (l : List α) (m : List β) (c : α) (c' : β), LR R l m → R c c' → R (l.foldl p c) (m.foldl q c')
  | [], [], _, _, _, h => h
  | a :: l, b :: m, c, c', h, hc => LR_fold' l m (p c a) (q c' b) h.2 (hp _ _ _ _ hc h.1)
  | [], _ :: _, _, _, h, _ => h.elim
  | _ :: _, [], _, _, h, _ => h.elim
theorem LR_fold {l : List α} {m : List β} {c : α} {c' : β} (h : LR R l m) (hc : R c c') : R (l.foldl p c) (m.foldl q c') := LR_fold' hp l m c c' h hc
theorem rt_rel (hx : ∀ i, R (x i) (y i)) : ∀ (h a : Nat), R (rt p x h a) (rt q y h a)
  | 0, a => hx a
  | h + 1, a => hp _ _ _ _ (rt_rel hx h a) (rt_rel hx h (a + 2 ^ h))
theorem rts_rel (hx : ∀ i, R (x i) (y i)) (l : List (Nat × Nat)) : LR R (rts p x l) (rts q y l) := LR_map l fun t => rt_rel hp hx t.2 t.1
theorem proofOf_rel (hx : ∀ i, R (x i) (y i)) (n i : Nat) : LR R (proofOf p x n i) (proofOf q y n i) :=
  LR_app (LR_map _ fun j => rt_rel hp hx j (sib i j)) (rts_rel hp hx _)
theorem climb_rel {r : α} {r' : β} (i : Nat) (hx : ∀ i, R (x i) (y i)) (hr : R r r') : ∀ j, R (climb p i x r j) (climb q i y r' j)
  | 0 => hr
  | j + 1 => by
    unfold climb
    by_cases h : i / 2 ^ j % 2 = 0
    · rw [if_pos h, if_pos h]; exact hp _ _ _ _ (climb_rel i hx hr j) (hx j)
    · rw [if_neg h, if_neg h]; exact hp _ _ _ _ (hx j) (climb_rel i hx hr j)
theorem checkVal_rel {c leaf z : α} {c' leaf' z' : β} {l : List α} {m : List β} (n i : Nat) (hc : R c c') (hl : R leaf leaf') (hz : R z z') (h : LR R l m) : R (checkVal p c n i leaf l z) (checkVal q c' n i leaf' m z') :=
  LR_fold hp (LR_app (LR_take _ (LR_drop _ h)) ⟨climb_rel hp i (fun j => LR_getD hz j h) hl _, LR_drop _ (LR_drop _ h)⟩) hc
end

/-- the root of a tree from the roots of the trees D -/
def jn {α : Type} (p : α → α → α) (D : List (Nat × Nat)) (l : List α) (z : α) : Nat → Nat → α
  | 0, a => l.getD (D.findIdx fun t => t == (a, 0)) z
  | h + 1, a => if D.contains (a, h + 1) = true then l.getD (D.findIdx fun t => t == (a, h + 1)) z else p (jn p D l z h a) (jn p D l z h (a + 2 ^ h))
def grow (m n : Nat) : List (Nat × Nat) := tr 0 m ++ tr m n
def gpeaks {α : Type} (p : α → α → α) (m n : Nat) (l : List α) (z : α) : List α := (tr 0 n).map fun t => jn p (grow m n) l z t.2 t.1
/-- one tree more on the stack (its top comes first) -/
def mstep {α : Type} (p : α → α → α) (e : Nat) : Nat → List (Nat × α) → Nat → α → List (Nat × α)
  | 0, st, h, r => (h, r) :: st
  | _ + 1, [], h, r => [(h, r)]
  | f + 1, (h', r') :: st, h, r => if h' = h ∧ (e - 2 ^ (h + 1)) % 2 ^ (h + 1) = 0 then mstep p e f st (h + 1) (p r' r) else (h, r) :: (h', r') :: st
def mergeF {α : Type} (p : α → α → α) : List Nat → List α → Nat → List (Nat × α) → List (Nat × α)
  | h :: hs, r :: rs, e, st => mergeF p hs rs (e + 2 ^ h) (mstep p (e + 2 ^ h) 5 st h r)
  | _, _, _, st => st
section
variable {α β : Type} {R : α → β → Prop} {p : α → α → α} {q : β → β → β} (hp : ∀ a b a' b', R a b → R a' b' → R (p a a') (q b b'))
include hp
theorem jn_rel {z : α} {z' : β} {l : List α} {m : List β} (D : List (Nat × Nat)) (hz : R z z') (h : LR R l m) : ∀ (k a : Nat), R (jn p D l z k a) (jn q D m z' k a)
  | 0, a => LR_getD hz _ h
  | k + 1, a => by
    unfold jn
    by_cases hc : D.contains (a, k + 1) = true
    · rw [if_pos hc, if_pos hc]; exact LR_getD hz _ h
    · rw [if_neg hc, if_neg hc]; exact hp _ _ _ _ (jn_rel D hz h k a) (jn_rel D hz h k (a + 2 ^ k))
theorem gpeaks_rel {z : α} {z' : β} {l : List α} {m : List β} (a b : Nat) (hz : R z z') (h : LR R l m) : LR R (gpeaks p a b l z) (gpeaks q a b m z') :=
  LR_map _ fun t => jn_rel hp _ hz h t.2 t.1
/-- stacks -/
def SR (R : α → β → Prop) : Nat × α → Nat × β → Prop := fun a b => a.1 = b.1 ∧ R a.2 b.2
theorem mstep_rel (e : Nat) : ∀ (f : Nat) (st : List (Nat × α)) (st' : List (Nat × β)) (h : Nat) (r : α) (r' : β), LR (SR R) st st' → R r r' → LR (SR R) (mstep p e f st h r) (mstep q e f st' h r')
  | 0, _, _, _, _, _, hs, hr => ⟨⟨rfl, hr⟩, hs⟩
  | _ + 1, [], [], _, _, _, _, hr => ⟨⟨rfl, hr⟩, trivial⟩
  | f + 1, (a, u) :: st, (b, v) :: st', h, r, r', hs, hr => by
    have hab : a = b := hs.1.1
    subst hab
    unfold mstep
    by_cases hc : a = h ∧ (e - 2 ^ (h + 1)) % 2 ^ (h + 1) = 0
    · rw [if_pos hc, if_pos hc]; exact mstep_rel e f st st' _ _ _ hs.2 (hp _ _ _ _ hs.1.2 hr)
    · rw [if_neg hc, if_neg hc]; exact ⟨⟨rfl, hr⟩, hs⟩
  | _ + 1, [], _ :: _, _, _, _, h, _ => h.elim
  | _ + 1, _ :: _, [], _, _, _, h, _ => h.elim
theorem mergeF_rel : ∀ (hs : List Nat) (l : List α) (m : List β) (e : Nat) (st : List (Nat × α)) (st' : List (Nat × β)), LR R l m → LR (SR R) st st' → LR (SR R) (mergeF p hs l e st) (mergeF q hs m e st')
  | [], [], [], _, _, _, _, h => h
  | [], _ :: _, _ :: _, _, _, _, _, h => h
  | _ :: _, [], [], _, _, _, _, h => h
  | h :: hs, r :: l, r' :: m, e, st, st', hl, h' => mergeF_rel hs l m _ _ _ hl.2 (mstep_rel hp _ _ _ _ _ _ _ h' hl.1)
  | [], [], _ :: _, _, _, _, h, _ => h.elim
  | [], _ :: _, [], _, _, _, h, _ => h.elim
  | _ :: _, [], _ :: _, _, _, _, h, _ => h.elim
  | _ :: _, _ :: _, [], _, _, _, h, _ => h.elim
end

/-- terms of pairs -/
inductive Tm where
  | v (n : Nat)
  | p (a b : Tm)
def Tm.same : Tm → Tm → Bool
  | .v a, .v b => a == b
  | .p a b, .p c d => a.same c && b.same d
  | _, _ => false
theorem Tm.same_eq : ∀ {a b : Tm}, a.same b = true → a = b
  | .v a, .v b, h => by rw [show a = b from beq_iff_eq.1 h]
  | .p a b, .p c d, h => by
    have h' : (a.same c && b.same d) = true := h
    rw [Bool.and_eq_true] at h'
    rw [Tm.same_eq h'.1, Tm.same_eq h'.2]
def Tm.all : List Tm → List Tm → Bool
  | [], [] => true
  | a :: l, b :: m => a.same b && Tm.all l m
  | _, _ => false
theorem Tm.all_eq : ∀ {l m : List Tm}, Tm.all l m = true → l = m
  | [], [], _ => rfl
  | a :: l, b :: m, h => by
    have h' : (a.same b && Tm.all l m) = true := h
    rw [Bool.and_eq_true] at h'
    rw [Tm.same_eq h'.1, Tm.all_eq h'.2]
def Tm.ev (f : Nat → Int) : Tm → Int
  | .v n => f n
  | .p a b => pr (a.ev f) (b.ev f)
def tv (i : Nat) : Tm := .v (i + 1)
def envT (c : Int) (x : Nat → Int) : Nat → Int
  | 0 => c
  | i + 1 => x i
/-- a term and its value -/
def RM (c : Int) (x : Nat → Int) : Tm → Int → Prop := fun t n => t.ev (envT c x) = n
theorem RM_p (c : Int) (x : Nat → Int) : ∀ a b a' b', RM c x a b → RM c x a' b' → RM c x (.p a a') (pr b b') := by
  intro a b a' b' h h'; unfold RM at *; subst h h'; rfl
theorem RM_v (c : Int) (x : Nat → Int) (i : Nat) : RM c x (tv i) (x i) := rfl
theorem RM_c (c : Int) (x : Nat → Int) : RM c x (.v 0) c := rfl
theorem LR_RM {c : Int} {x : Nat → Int} : ∀ {l : List Tm} {m m' : List Int}, LR (RM c x) l m → LR (RM c x) l m' → m = m'
  | [], [], [], _, _ => rfl
  | a :: l, b :: m, b' :: m', h, h' => by
    have e1 : a.ev _ = b := h.1
    have e2 : a.ev _ = b' := h'.1
    rw [← e1, ← e2, LR_RM h.2 h'.2]
  | [], [], _ :: _, _, h => h.elim
  | [], _ :: _, _, h, _ => h.elim
  | _ :: _, [], _, h, _ => h.elim
  | _ :: _, _ :: _, [], _, h => h.elim
theorem list_lf (l : List Int) : (List.range l.length).map (lf l) = l := by
  apply List.ext_getElem
  · simp
  · intro i h1 h2
    rw [List.getElem_map, List.getElem_range]
    unfold lf; rw [List.getD_eq_getElem?_getD, List.getElem?_eq_getElem h2]; rfl

/-- what has changed: 0 nothing, 1 it differs, 2 not known -/
def tp (a b : Nat) : Nat := if a + b = 0 then 0 else if a + b = 1 then 1 else 2
def tx (k i : Nat) : Nat := if i = k then 1 else 0
def q2 (a b : Int × Int) : Int × Int := (pr a.1 b.1, pr a.2 b.2)
def RT : Nat → Int × Int → Prop := fun t b => ((0 ≤ b.1 ∧ b.1 ≤ 990) ∧ (0 ≤ b.2 ∧ b.2 ≤ 990)) ∧ (t = 0 → b.1 = b.2) ∧ (t = 1 → b.1 ≠ b.2)
theorem RT_p : ∀ a b a' b', RT a b → RT a' b' → RT (tp a a') (q2 b b') := by
  intro a b a' b' ⟨⟨h1, h2⟩, h3, h4⟩ ⟨⟨g1, g2⟩, g3, g4⟩
  refine ⟨⟨⟨pr_nonneg _ _, pr_le _ _⟩, pr_nonneg _ _, pr_le _ _⟩, fun h => ?_, fun h => ?_⟩
  · unfold tp at h
    have : a + a' = 0 := by
      rcases Nat.eq_zero_or_pos (a + a') with h0 | h0
      · exact h0
      · rw [if_neg (by omega)] at h; split at h <;> cases h
    show pr _ _ = pr _ _
    rw [h3 (by omega), g3 (by omega)]
  · unfold tp at h
    have h1' : a + a' = 1 := by
      by_cases h0 : a + a' = 0
      · rw [if_pos h0] at h; cases h
      · rw [if_neg h0] at h
        by_cases h5 : a + a' = 1
        · exact h5
        · rw [if_neg h5] at h; cases h
    show pr _ _ ≠ pr _ _
    rcases (show (a = 1 ∧ a' = 0) ∨ (a = 0 ∧ a' = 1) by omega) with ⟨ha, ha'⟩ | ⟨ha, ha'⟩
    · rw [g3 ha']; exact fun e => h4 ha (pr_left h1 h2 e)
    · rw [h3 ha]; exact fun e => g4 ha' (pr_right g1 g2 e)
theorem RT_0 {d : Int} (h : 0 ≤ d ∧ d ≤ 990) : RT 0 (d, d) := ⟨⟨h, h⟩, fun _ => rfl, fun h => by cases h⟩
theorem RT_1 {d e : Int} (h : 0 ≤ d ∧ d ≤ 990) (h' : 0 ≤ e ∧ e ≤ 990) (hn : d ≠ e) : RT 1 (d, e) := ⟨⟨h, h'⟩, fun h => absurd h (by decide), fun _ => hn⟩
def R1 : Int × Int → Int → Prop := fun b n => b.1 = n
def R2 : Int × Int → Int → Prop := fun b n => b.2 = n
theorem R1_p : ∀ a b a' b', R1 a b → R1 a' b' → R1 (q2 a a') (pr b b') := by intro a b a' b' h h'; unfold R1 at *; subst h h'; rfl
theorem R2_p : ∀ a b a' b', R2 a b → R2 a' b' → R2 (q2 a a') (pr b b') := by intro a b a' b' h h'; unfold R2 at *; subst h h'; rfl
theorem lf_dig {L : List Int} (hd : digs L = true) (i : Nat) : 0 ≤ lf L i ∧ lf L i ≤ 990 := by
  unfold lf
  rw [List.getD_eq_getElem?_getD]
  cases h : L[i]? with
  | none => exact ⟨by decide, by decide⟩
  | some x =>
    unfold digs at hd
    exact digB_true.1 (List.all_eq_true.1 hd x (List.mem_of_getElem? h))
theorem lf_set {L : List Int} {k i : Nat} {z : Int} : lf (L.set k z) i = if i = k ∧ k < L.length then z else lf L i := by
  unfold lf
  rw [List.getD_eq_getElem?_getD, List.getD_eq_getElem?_getD, List.getElem?_set]
  by_cases h : k = i
  · subst h
    by_cases hl : k < L.length
    · rw [if_pos rfl, if_pos hl, if_pos ⟨rfl, hl⟩]; rfl
    · rw [if_pos rfl, if_neg hl, if_neg (by omega), List.getElem?_eq_none (by omega)]
  · rw [if_neg h, if_neg (by omega)]
theorem RT_leaf {L : List Int} {k : Nat} {z : Int} (hd : digs L = true) (hk : k < L.length) (hz : 0 ≤ z ∧ z ≤ 990) (hn : z ≠ lf L k) (i : Nat) : RT (tx k i) (lf L i, lf (L.set k z) i) := by
  rw [lf_set]
  unfold tx
  by_cases h : i = k
  · subst h
    rw [if_pos rfl, if_pos ⟨rfl, hk⟩]; exact RT_1 (lf_dig hd i) hz fun e => hn e.symm
  · rw [if_neg h, if_neg (by omega)]; exact RT_0 (lf_dig hd i)
end Go.Proofs.Ytcocknfdafmfnaa
