/- Plain functions: what the program computes, on integers and lists. No program in sight. -/

namespace Go.Proofs.Ytcocknfdafmfnaa
set_option linter.unusedVariables false

/-- lo ≤ n ≤ hi -/
def inB (n lo hi : Int) : Bool := decide (lo ≤ n) && decide (n ≤ hi)
theorem inB_true {n lo hi : Int} : inB n lo hi = true ↔ lo ≤ n ∧ n ≤ hi := by simp [inB]
theorem inB_false {n lo hi : Int} : inB n lo hi = false ↔ n < lo ∨ hi < n := by
  unfold inB; rw [Bool.and_eq_false_iff]; simp only [decide_eq_false_iff_not, Int.not_le]

def digB (n : Int) : Bool := inB n 0 990
def keyB (n : Int) : Bool := inB n 1 996
theorem digB_true {n : Int} : digB n = true ↔ 0 ≤ n ∧ n ≤ 990 := inB_true
theorem digB_false {n : Int} : digB n = false ↔ n < 0 ∨ 990 < n := inB_false
theorem keyB_true {n : Int} : keyB n = true ↔ 1 ≤ n ∧ n ≤ 996 := inB_true
theorem keyB_false {n : Int} : keyB n = false ↔ n < 1 ∨ 996 < n := inB_false

/-- the digest of a pair of digests -/
def pr (a b : Int) : Int := (31 * a + 17 * b + 5) % 991
theorem pr_nonneg (a b : Int) : 0 ≤ pr a b := by unfold pr; omega
theorem pr_le (a b : Int) : pr a b ≤ 990 := by unfold pr; omega
theorem pr_dig (a b : Int) : digB (pr a b) = true := digB_true.2 ⟨pr_nonneg a b, pr_le a b⟩

/-- the digest of a pair, -1 where one of the two is no digest -/
def dpair (a b : Int) : Int := if digB a = true ∧ digB b = true then pr a b else -1
theorem dpair_ok {a b : Int} (ha : digB a = true) (hb : digB b = true) : dpair a b = pr a b := if_pos ⟨ha, hb⟩

/-- one byte more -/
def step (n c : Int) : Int := (257 * n + c + 1) % 991
theorem step_nonneg (n c : Int) : 0 ≤ step n c := by unfold step; omega
theorem step_le (n c : Int) : step n c ≤ 990 := by unfold step; omega
def txt (l : List UInt8) : Int := l.foldl (fun n c => step n (c.toNat : Int)) 11
theorem txt_nil : txt [] = 11 := rfl
theorem txt_snoc (l : List UInt8) (c : UInt8) : txt (l ++ [c]) = step (txt l) (c.toNat : Int) := by unfold txt; rw [List.foldl_append]; rfl
theorem txt_bd (l : List UInt8) : 0 ≤ txt l ∧ txt l ≤ 990 := by
  rcases List.eq_nil_or_concat l with rfl | ⟨l', c, rfl⟩
  · rw [txt_nil]; omega
  · rw [List.concat_eq_append, txt_snoc]; exact ⟨step_nonneg _ _, step_le _ _⟩
def dtext (l : List UInt8) : Int := if l.length ≤ 8 then txt l else -1

def hpub (s : Int) : Int := if keyB s = true then s * 5 % 997 else 0
/-- the number that is signed -/
def msg (l d : Int) : Int := pr l d + 1
/-- a head is signed -/
def hcB (p l d s : Int) : Bool := keyB p && (inB l 0 16 && (digB d && (keyB s && (s * 5 % 997 == p * msg l d % 997))))
/-- a proof of a fork is right -/
def fkB (p la da sa lb db sb : Int) : Bool := hcB p la da sa && (hcB p lb db sb && ((la == lb) && !(da == db)))
def other (d k : Int) : Int := (d + 1 + k % 990) % 991
end Go.Proofs.Ytcocknfdafmfnaa
