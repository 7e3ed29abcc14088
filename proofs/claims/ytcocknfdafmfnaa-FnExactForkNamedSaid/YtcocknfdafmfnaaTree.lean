/- Plain functions on trees: the division of leaves into complete trees, roots, peaks, proofs. No program in sight. -/
import Derived.Test.YtcocknfdafmfnaaPure
namespace Go.Proofs.Ytcocknfdafmfnaa
set_option linter.unusedVariables false

/-- the height of the largest complete tree that starts at a and ends at most at n -/
def htF : Nat → Nat → Nat → Nat → Nat
  | 0, _, _, j => j
  | f + 1, a, n, j => if a % 2 ^ (j + 1) = 0 ∧ a + 2 ^ (j + 1) ≤ n then htF f a n (j + 1) else j
def ht (a n : Nat) : Nat := htF 4 a n 0
/-- the trees (start, height) into which the leaves from a on are divided -/
def trF : Nat → Nat → Nat → List (Nat × Nat)
  | 0, _, _ => []
  | f + 1, a, n => if a < n then (a, ht a n) :: trF f (a + 2 ^ ht a n) n else []
def tr (a n : Nat) : List (Nat × Nat) := trF 16 a n

section
variable {α : Type} (p : α → α → α) (x : Nat → α)
/-- the root of the tree of height h that starts at a -/
def rt : Nat → Nat → α
  | 0, a => x a
  | h + 1, a => p (rt h a) (rt h (a + 2 ^ h))
def rts (l : List (Nat × Nat)) : List α := l.map fun t => rt p x t.2 t.1
end

def lf (L : List Int) (i : Nat) : Int := L.getD i 0
def digs (L : List Int) : Bool := L.all digB
def leavesB (L : List Int) : Bool := decide (L.length ≤ 16) && digs L
def peaks (L : List Int) : List Int := rts pr (lf L) (tr 0 L.length)
def foldD (n : Int) (l : List Int) : Int := l.foldl pr n
def tpeaks (L : List Int) : List Int := if leavesB L = true then peaks L else []
def tdigest (L : List Int) : Int := if leavesB L = true then foldD L.length (peaks L) else -1
/-- the tree among l that has leaf i: its number -/
def peakN (l : List (Nat × Nat)) (i : Nat) : Nat := l.findIdx fun t => decide (i < t.1 + 2 ^ t.2)
/-- the start of the sibling of height j beside leaf i -/
def sib (i j : Nat) : Nat := (i / 2 ^ j ^^^ 1) * 2 ^ j
def proofOf {α : Type} (p : α → α → α) (x : Nat → α) (n i : Nat) : List α :=
  let l := tr 0 n
  let k := peakN l i
  (List.range (l.getD k (0, 0)).2).map (fun j => rt p x j (sib i j)) ++ rts p x (l.eraseIdx k)
def tproof (L : List Int) (i : Int) : List Int := if leavesB L = true ∧ 0 ≤ i ∧ i < L.length then proofOf pr (lf L) L.length i.toNat else []
/-- the root from a leaf and the proof's first elements -/
def climb {α : Type} (p : α → α → α) (i : Nat) (y : Nat → α) (r : α) : Nat → α
  | 0 => r
  | j + 1 => if i / 2 ^ j % 2 = 0 then p (climb p i y r j) (y j) else p (y j) (climb p i y r j)
def proofLen (n i : Nat) : Nat := (((tr 0 n).getD (peakN (tr 0 n) i) (0, 0)).2) + ((tr 0 n).length - 1)
/-- what a proof's check computes -/
def checkVal {α : Type} (p : α → α → α) (c : α) (n i : Nat) (leaf : α) (l : List α) (z : α) : α :=
  let T := tr 0 n
  let k := peakN T i
  let h := (T.getD k (0, 0)).2
  let root := climb p i (fun j => l.getD j z) leaf h
  let q := l.drop h
  ((q.take k ++ root :: q.drop k)).foldl p c
def tcheck (d n i leaf : Int) (l : List Int) : Bool :=
  inB n 1 16 && inB i 0 (n - 1) && digB leaf && digs l && decide (l.length = proofLen n.toNat i.toNat) && (checkVal pr n n.toNat i.toNat leaf l 0 == d)
def tgrowth (L : List Int) (m : Int) : List Int := if leavesB L = true ∧ 0 ≤ m ∧ m ≤ L.length then rts pr (lf L) (tr 0 m.toNat) ++ rts pr (lf L) (tr m.toNat L.length) else []

theorem ht_le : ∀ a n, a ≤ 16 → n ≤ 16 → ht a n ≤ 4 := by
  intro a n ha hn
  have : ∀ a : Fin 17, ∀ n : Fin 17, ht a.1 n.1 ≤ 4 := by decide +kernel
  exact this ⟨a, by omega⟩ ⟨n, by omega⟩
theorem ht_end (a n : Nat) (h : a < n) (hn : n ≤ 16) : a + 2 ^ ht a n ≤ n := by
  have : ∀ a : Fin 17, ∀ n : Fin 17, a.1 < n.1 → a.1 + 2 ^ ht a.1 n.1 ≤ n.1 := by decide +kernel
  exact this ⟨a, by omega⟩ ⟨n, by omega⟩ h
end Go.Proofs.Ytcocknfdafmfnaa
