/- Plain functions on bits. No program in sight. -/
import Derived.Test.YtjmgkcmmhkpmhaaPure
namespace Go.Proofs.Ytjmgkcmmhkpmhaa
set_option linter.unusedVariables false

theorem take_at {α : Type} {L : List α} {k : Nat} {x : α} (h : L[k]? = some x) : L.take (k + 1) = L.take k ++ [x] := by
  have hlt : k < L.length := by
    rcases Nat.lt_or_ge k L.length with h' | h'
    · exact h'
    · rw [List.getElem?_eq_none h'] at h; cases h
  rw [List.take_succ_eq_append_getElem hlt]
  rw [List.getElem?_eq_getElem hlt] at h
  simp only [Option.some.injEq] at h
  rw [h]

def cnt (L : List Bool) : Nat := L.count true
theorem cnt_snoc (L : List Bool) (b : Bool) : cnt (L ++ [b]) = cnt L + if b = true then 1 else 0 := by
  unfold cnt; rw [List.count_append]; cases b <;> simp
theorem cnt_le (L : List Bool) : cnt L ≤ L.length := List.count_le_length
theorem cnt_take {L : List Bool} {k : Nat} {b : Bool} (h : L[k]? = some b) : cnt (L.take (k + 1)) = cnt (L.take k) + if b = true then 1 else 0 := by
  rw [take_at h, cnt_snoc]
def bcount (L : List Bool) : Int := if L.length ≤ 16 then (cnt L : Int) else -1

/-- the places, among the first k, that are set in A alone -/
def wantsN (A B : List Bool) (k : Nat) : List Nat := (List.range k).filter fun i => A.getD i false && !(B.getD i false)
theorem wantsN_succ (A B : List Bool) (k : Nat) : wantsN A B (k + 1) = wantsN A B k ++ if (A.getD k false && !(B.getD k false)) = true then [k] else [] := by
  unfold wantsN; rw [List.range_succ, List.filter_append, List.filter_cons, List.filter_nil]
theorem wantsN_len (A B : List Bool) (k : Nat) : (wantsN A B k).length ≤ k := by
  unfold wantsN; exact Nat.le_trans (List.length_filter_le _ _) (by simp)
def wants (A B : List Bool) : List Int := if A.length ≤ 16 ∧ B.length ≤ 16 then (wantsN A B A.length).map (fun n : Nat => (n : Int)) else []

/-- the runs that are closed, the value of the open one, its length -/
structure RunSt where
  out : List Int
  val : Bool
  num : Nat
def rstep (s : RunSt) (b : Bool) : RunSt := if b = s.val then ⟨s.out, s.val, s.num + 1⟩ else ⟨s.out ++ [(s.num : Int)], b, 1⟩
def rstate (L : List Bool) : RunSt := L.foldl rstep ⟨[], false, 0⟩
theorem rstate_snoc (L : List Bool) (b : Bool) : rstate (L ++ [b]) = rstep (rstate L) b := by unfold rstate; rw [List.foldl_append]; rfl
theorem rstate_take {L : List Bool} {k : Nat} {b : Bool} (h : L[k]? = some b) : rstate (L.take (k + 1)) = rstep (rstate (L.take k)) b := by rw [take_at h, rstate_snoc]
def runL (s : RunSt) : List Int := if 0 < s.num then s.out ++ [(s.num : Int)] else s.out
def runs (L : List Bool) : List Int := if L.length ≤ 16 then runL (rstate L) else []
theorem rstep_num (s : RunSt) (b : Bool) : 1 ≤ (rstep s b).num := by unfold rstep; split <;> simp
theorem rstate_num {L : List Bool} {k : Nat} (hk : 0 < k) (hl : k ≤ L.length) : 1 ≤ (rstate (L.take k)).num := by
  obtain ⟨j, rfl⟩ : ∃ j, k = j + 1 := ⟨k - 1, by omega⟩
  rw [rstate_take (List.getElem?_eq_getElem (by omega : j < L.length))]
  exact rstep_num _ _
theorem rstate_bound (L : List Bool) (k : Nat) : (rstate (L.take k)).out.length + (rstate (L.take k)).num ≤ k + 1 ∧ (rstate (L.take k)).num ≤ k ∧ (0 < k → (rstate (L.take k)).out.length ≤ k) := by
  induction k with
  | zero => simp [rstate]
  | succ k ih =>
    rcases Nat.lt_or_ge k L.length with h | h
    · rw [rstate_take (List.getElem?_eq_getElem h)]
      unfold rstep
      split
      · simp only []; omega
      · simp only [List.length_append, List.length_singleton]
        obtain ⟨i1, i2, i3⟩ := ih
        refine ⟨?_, by omega, fun _ => ?_⟩
        all_goals
          rcases Nat.eq_zero_or_pos k with rfl | hk
          · simp [rstate]
          · have := rstate_num hk (Nat.le_of_lt h)
            omega
    · rw [List.take_of_length_le (show L.length ≤ k + 1 by omega)]
      rw [List.take_of_length_le h] at ih
      omega

/-- the bit of run k -/
def bitK (k : Nat) : Bool := ((k : Int) % 2 == 1)
theorem bitK_succ (k : Nat) : bitK (k + 1) = !(bitK k) := by
  unfold bitK
  rcases (show (k : Int) % 2 = 0 ∨ (k : Int) % 2 = 1 by omega) with h | h
  · have h2 : ((k + 1 : Nat) : Int) % 2 = 1 := by omega
    rw [h, h2]; rfl
  · have h2 : ((k + 1 : Nat) : Int) % 2 = 0 := by omega
    rw [h, h2]; rfl
/-- the bits of the first k runs -/
def expand (R : List Int) : Nat → List Bool
  | 0 => []
  | k + 1 => expand R k ++ List.replicate (R.getD k 0).toNat (bitK k)
/-- the least length of run k -/
def lst (n k : Nat) : Int := if k = 0 ∧ 1 < n then 0 else 1
def runsOk (R : List Int) (k : Nat) : Prop := ∀ j, j < k → lst R.length j ≤ R.getD j 0
open Classical in
noncomputable def bitsOf (R : List Int) : Option (List Bool) := if runsOk R R.length ∧ (expand R R.length).length ≤ 16 then some (expand R R.length) else none
theorem expand_le (R : List Int) {j k : Nat} (h : j ≤ k) : (expand R j).length ≤ (expand R k).length := by
  induction k with
  | zero => rw [show j = 0 by omega]; exact Nat.le_refl _
  | succ k ih =>
    rcases Nat.lt_or_ge j (k + 1) with h1 | h1
    · refine Nat.le_trans (ih (by omega)) ?_
      show _ ≤ (expand R k ++ _).length
      rw [List.length_append]; omega
    · rw [show j = k + 1 by omega]; exact Nat.le_refl _
theorem expand_succ_len (R : List Int) (k : Nat) : (expand R (k + 1)).length = (expand R k).length + (R.getD k 0).toNat := by
  show (expand R k ++ _).length = _
  rw [List.length_append, List.length_replicate]
theorem expand_bd (R : List Int) (k : Nat) (h : ∀ j, j < k → R.getD j 0 ≤ 16) : (expand R k).length ≤ 16 * k := by
  induction k with
  | zero => exact Nat.le_refl _
  | succ k ih =>
    rw [expand_succ_len]
    have h1 := ih fun j hj => h j (by omega)
    have h2 := h k (by omega)
    generalize R.getD k 0 = x at h2 ⊢
    omega
theorem bitsOf_some {R : List Int} (h1 : runsOk R R.length) (h2 : (expand R R.length).length ≤ 16) : bitsOf R = some (expand R R.length) := if_pos ⟨h1, h2⟩
theorem bitsOf_bad {R : List Int} {k : Nat} (hk : k < R.length) (h : R.getD k 0 < lst R.length k) : bitsOf R = none := if_neg fun hh => by have := hh.1 k hk; omega
theorem bitsOf_long {R : List Int} {k : Nat} (hk : k ≤ R.length) (h : 16 < (expand R k).length) : bitsOf R = none := if_neg fun hh => by have := expand_le R hk; omega
theorem lst_01 (n k : Nat) : 0 ≤ lst n k ∧ lst n k ≤ 1 := by unfold lst; split <;> omega

end Go.Proofs.Ytjmgkcmmhkpmhaa
