/- Maps from trees to numbers, in memory. -/
import Derived.Test.YtpbdehncmincaaaGrowth
import Derived.MapKept
import Derived.ChangeMaps5
import Derived.Laws.StructEq
import Derived.Laws.Small
namespace Go.Proofs.Ytpbdehncmincaaa
set_option linter.unusedVariables false
open Go.RowKit
open Go.ChangeMaps

def keyT (a s : Int) : Value := .agg #[.int .i64 a, .int .i64 s]
def keyN (t : Nat × Nat) : Value := keyT (t.1 : Int) ((2 ^ t.2 : Nat) : Int)
theorem run_eqT (a s b t : Int) (w : World) : (Op.equal 49 (keyT a s) (keyT b t)).run Try.prog w = .ok (a == b && s == t) w := by
  unfold keyT Op.equal Op.maxDepth
  simp [go_sem]
  by_cases h1 : a = b <;> by_cases h2 : s = t <;> simp [h1, h2]
theorem run_checkT (e : Bool) (a s : Int) (w : World) : (Instr.checkKey e 10000 49 (keyT a s)).run Try.prog w = .ok () w := by
  unfold keyT Instr.checkKey
  simp [go_sem]
  unfold Instr.checkKey
  simp [go_sem]
theorem pow_inj {j h : Nat} : 2 ^ j = 2 ^ h ↔ j = h := ⟨fun e => by
  rcases Nat.lt_trichotomy j h with h1 | h1 | h1
  · have := Nat.pow_lt_pow_right (a := 2) (by decide) h1; omega
  · exact h1
  · have := Nat.pow_lt_pow_right (a := 2) (by decide) h1; omega, fun e => by rw [e]⟩
theorem key_same (s t : Nat × Nat) : (((s.1 : Int) == (t.1 : Int)) && (((2 ^ s.2 : Nat) : Int) == ((2 ^ t.2 : Nat) : Int))) = (s == t) := by
  rw [Bool.eq_iff_iff, Bool.and_eq_true, beq_iff_eq, beq_iff_eq, beq_iff_eq]
  constructor
  · rintro ⟨h1, h2⟩
    have h3 : s.2 = t.2 := pow_inj.1 (Int.ofNat.inj h2)
    exact Prod.ext (by omega) h3
  · rintro rfl; exact ⟨rfl, rfl⟩
/-- the first entry with a key: its number and its value -/
def findE (t : Nat × Nat) : List ((Nat × Nat) × Int) → Nat → Option (Nat × Int)
  | [], _ => none
  | x :: E, i => if (t == x.1) = true then some (i, x.2) else findE t E (i + 1)
def pairV (x : (Nat × Nat) × Int) : Value × Value := (keyN x.1, .int .i64 x.2)
theorem run_findT (t : Nat × Nat) (w : World) : ∀ (es : List MapEntry) (E : List ((Nat × Nat) × Int)) (i : Nat), es.map (fun e => (e.key, e.val)) = E.map pairV →
    (Instr.findAsking 49 (keyN t) es i).run Try.prog w = .ok ((findE t E i).map fun x => (x.1, .int .i64 x.2)) w
  | [], [], i, _ => by unfold Instr.findAsking; simp [findE]
  | e :: es, x :: E, i, h => by
    simp only [List.map_cons, List.cons.injEq] at h
    obtain ⟨h1, h2⟩ := h
    unfold pairV at h1
    simp only [Prod.mk.injEq] at h1
    have ih := run_findT t w es E (i + 1) h2
    unfold Instr.findAsking
    rw [h1.1]
    have he : (Op.equal 49 (keyN t) (keyN x.1)).run Try.prog w = .ok (t == x.1) w := by
      unfold keyN; rw [run_eqT, key_same]
    unfold findE
    cases hc : t == x.1
    · rw [hc] at he
      simp [he, ih]
    · rw [hc] at he
      simp [he, h1.2]
  | [], _ :: _, _, h => by simp at h
  | _ :: _, [], _, h => by simp at h
/-- Block b is a map that was filled with E. -/
def TMap (w : World) (b : Nat) (E : List ((Nat × Nat) × Int)) : Prop := ∃ es clock, w.heap[b]? = some (.map es clock) ∧ es.toList.map (fun e => (e.key, e.val)) = E.map pairV
theorem TMap.made (w : World) : TMap (w.alloc (.map #[] 0)) w.heap.size [] := ⟨#[], 0, (MapKept.heap_alloc w _).1, rfl⟩
theorem TMap.lt {w : World} {b : Nat} {E : List ((Nat × Nat) × Int)} (h : TMap w b E) : b < w.heap.size := by
  obtain ⟨es, clock, hb, _⟩ := h
  exact (Array.getElem?_eq_some_iff.1 hb).1
theorem TMap.below {w w' : World} {b B : Nat} {E : List ((Nat × Nat) × Int)} (h : TMap w b E) (hb : Below B w w') (hB : b < B) : TMap w' b E := by
  obtain ⟨es, clock, h1, h2⟩ := h
  exact ⟨es, clock, (hb.block b hB).trans h1, h2⟩
theorem TMap.next {w w' : World} {b : Nat} {E : List ((Nat × Nat) × Int)} (h : TMap w b E) (hb : Below w.heap.size w w') : TMap w' b E := h.below hb h.lt
theorem treeUnder : (match Try.prog.underlying 49 with | some (.struct _) => true | _ => false) = true := by kernel_rfl
theorem mapUnder : Try.prog.underlying 47 = some (.map 49 3) := by kernel_rfl
theorem run_keyT (t : Nat × Nat) (w : World) (es : List MapEntry) (E : List ((Nat × Nat) × Int)) (h : es.map (fun e => (e.key, e.val)) = E.map pairV) :
    (Instr.findKey 49 (keyN t) es).run Try.prog w = .ok ((findE t E 0).map fun x => (x.1, .int .i64 x.2)) w := by
  have hf := run_findT t w es E 0 h
  have hu := treeUnder
  cases hk : Try.prog.underlying 49 with
  | none => rw [hk] at hu; cases hu
  | some kd =>
    rw [hk] at hu
    cases kd <;> try cases hu
    rename_i fs
    unfold Instr.findKey
    simp only [Sem.run_bind, run_underlying hk, Result.andThen_ok]
    cases es with
    | nil =>
      cases E with
      | nil => simp [Instr.findNow, findE]
      | cons x E => simp at h
    | cons e es => simp [Instr.findNow, Instr.sameNow, hf]
theorem zeroInt (w : World) : (zeroValue 3).run Try.prog w = .ok (.int .i64 0) w := by kernel_rfl
theorem run_lookT {w : World} {b : Nat} {E : List ((Nat × Nat) × Int)} (h : TMap w b E) (t : Nat × Nat) :
    (Instr.lookup 47 (.map (some b)) (keyN t) true).run Try.prog w = .ok (match findE t E 0 with | some x => .tuple #[.int .i64 x.2, .bool true] | none => .tuple #[.int .i64 0, .bool false]) w := by
  obtain ⟨es, clock, hb, hE⟩ := h
  have h1 := run_keyT t w es.toList E hE
  have h2 := run_checkT es.isEmpty (t.1 : Int) ((2 ^ t.2 : Nat) : Int) w
  unfold Instr.lookup
  unfold keyN at h1 ⊢
  simp only [Sem.run_bind, run_underlying mapUnder, Result.andThen_ok, MapKept.run_getObj_map hb, Sem.run_pure, h2, h1]
  cases findE t E 0 with
  | none => simp
  | some x => simp
theorem run_putT {w : World} {b : Nat} {E : List ((Nat × Nat) × Int)} (h : TMap w b E) (t : Nat × Nat) (v : Int) (hno : findE t E 0 = none) :
    ∃ w', (Instr.mapUpdate 47 (.map (some b)) (keyN t) (.int .i64 v)).run Try.prog w = .ok () w' ∧ TMap w' b (E ++ [(t, v)]) ∧ w.grownBy w' (some b) := by
  obtain ⟨es, clock, hb, hE⟩ := h
  have h1 := run_keyT t w es.toList E hE
  have h2 := run_checkT false (t.1 : Int) ((2 ^ t.2 : Nat) : Int) w
  rw [hno] at h1
  have h1' := h1
  unfold keyN at h1'
  refine ⟨setBlock w b (.map (es.push { key := keyN t, val := .int .i64 v, born := clock }) (clock + 1)), ?_, ⟨_, _, heap_setBlock_same hb _, ?_⟩, ⟨rfl, rfl, rfl, by simp [setBlock], fun i _ hi => heap_setBlock_other hb _ (fun e => hi (by rw [e]))⟩⟩
  · unfold Instr.mapUpdate
    unfold keyN
    simp only [Sem.run_bind, run_underlying mapUnder, Result.andThen_ok, MapKept.run_getObj_map hb, h2, h1', Option.map_none]
    rw [MapKept.run_setObj_map _ hb]
    rfl
  · rw [Array.toList_push, List.map_append, List.map_append, hE]; rfl
end Go.Proofs.Ytpbdehncmincaaa
