/- The walk of the reference's ForkNamed. -/
import Derived.Test.YtcocknfdafmfnaaForkN
namespace Go.Proofs.Ytcocknfdafmfnaa
set_option linter.unusedVariables false
open Go.RowKit

def curN (F : List FK) (m j : Nat) : List Int := specN F m ++ (if hitF (F.take j) m = true then [(m : Int)] else [])
theorem curN_has (F : List FK) (m j : Nat) : (curN F m j).contains (m : Int) = hitF (F.take j) m := by
  unfold curN
  cases h : hitF (F.take j) m
  · rw [Bool.eq_false_iff]
    intro hh
    rw [List.contains_iff_mem] at hh
    simp only [Bool.false_eq_true, if_false, List.append_nil] at hh
    obtain ⟨k, hk, _, _, e⟩ := specN_mem.1 hh
    omega
  · exact List.contains_iff_mem.2 (by simp)
theorem curN_len (F : List FK) (m j : Nat) : (curN F m j).length ≤ m + 1 := by
  unfold curN
  rw [List.length_append]
  have := specN_len F m
  split <;> simp <;> omega
theorem curN_end (F : List FK) (m j : Nat) (hm : 0 < m) (hj : F.length ≤ j) : curN F m j = specN F (m + 1) := by
  unfold curN
  rw [specN_succ F m hm, List.take_of_length_le hj]
theorem curN_zero (F : List FK) (m : Nat) : curN F m 0 = specN F m := by
  unfold curN hitF; simp
def SnO (F : List FK) (w : World) (o k : Value) (wr : World) : Prop :=
  ∃ m : Nat, 1 ≤ m ∧ m ≤ 997 ∧ k = .int .i64 m ∧ OW wr w.heap.size 3 o ((specN F m).map (Value.int .i64)) ∧ Below w.heap.size w wr
def SnI (F : List FK) (w : World) (m : Nat) (o i : Value) (wr : World) : Prop :=
  ∃ j : Nat, j ≤ F.length ∧ i = .int .i64 j ∧ OW wr w.heap.size 3 o ((curN F m j).map (Value.int .i64)) ∧ Below w.heap.size w wr
set_option maxHeartbeats 8000000 in
set_option maxRecDepth 100000 in
theorem sForkNamed_any (v : Value) (F : List FK) (B : Nat) (w : World) (h : RF w B v F) (hB : B ≤ w.heap.size) (hn : F.length ≤ 1048576) :
    Calls Try.prog 12 #[v] w (NewRow w 3 ((named F).map (Value.int .i64))) := by
  rw [named_spec]
  obtain ⟨A, cap, rfl, hl, hm, hc⟩ := h
  obtain ⟨j0, ji, jz0, jz1, jz2⟩ := info_parts infoInt
  have HC := hid' hc
  clear hc
  go_enter Try.func12, Try.ntmps12
  go_wp2_with fail
  go_loopw [3, 4] (fun o k wr => SnO F w o k wr) (fun _ k _ => 997 - (intOf k).toNat)
  case atStart => exact show SnO _ _ _ _ _ from ⟨1, Nat.le_refl _, by omega, rfl, by rw [specN_one]; exact own_empty (Nat.le_refl _), bnew w _⟩
  case round =>
    obtain ⟨m, hm1, hm2, rfl, hown, hbel⟩ := hrel
    by_cases hlt : m < 997
    · obtain ⟨wo, hwo⟩ : ∃ wo : World, wo = wr := ⟨_, rfl⟩
      subst hwo
      rw [← curN_zero] at hown
      have hltI : (m : Int) < 997 := by omega
      have hltD : decide ((m : Int) < 997) = true := decide_eq_true hltI
      go_wp2_with fail
      go_loopw [3, 5] (fun o i wr => SnI F w m o i wr) (fun _ i _ => F.length - (intOf i).toNat)
      case atStart => exact show SnI _ _ _ _ _ _ from ⟨0, Nat.zero_le _, rfl, hown, hbel⟩
      case round =>
        clear hown hbel
        obtain ⟨j, hj, rfl, hown, hbel⟩ := hrel
        by_cases hlt2 : j < F.length
        · obtain ⟨b, off, rfl, hbB, hcell⟩ := HC.out (by omega)
          obtain ⟨f, hf⟩ : ∃ f, F[j]? = some f := ⟨F[j], List.getElem?_eq_getElem hlt2⟩
          obtain ⟨c0, c1, c2, c3, c4, c5, c6⟩ := rf_c7 (w := wr) (fun q u hu => (hbel.cell (p := ⟨b, off + j * 7 + q, none⟩) (by show b < w.heap.size; omega)).trans (hcell j f hf q u hu))
          have HS := hid' (hitF_snoc hf m)
          have HO : okF f = fkB f.p f.la f.da f.sa f.lb f.db f.sb := rfl
          obtain ⟨p, la, da, sa, lb, db, sb⟩ := f
          simp only at c0 c1 c2 c3 c4 c5 c6 HO HS
          have hcl := curN_len F m j
          have hlen1 : ((curN F m j).map (Value.int .i64)).length ≤ 33554432 := by rw [List.length_map]; omega
          clear hf hcell
          by_cases hp : p = (m : Int)
          · have e1 : (p == (m : Int)) = true := beq_iff_eq.2 hp
            obtain ⟨bb, hbb⟩ : ∃ bb, fkB p la da sa lb db sb = bb := ⟨_, rfl⟩
            rw [hbb] at HO
            have HB := hid' hbb
            have HS2 : Hid (hitF (F.take (j + 1)) m = (hitF (F.take j) m || bb)) := by unfold Hid; rw [HS.out, HO, decide_eq_true hp, Bool.true_and]
            clear hbb HO hp HS
            go_wp2_with fail
            (with_reducible refine (sForkCheck_b p la da sa lb db sb bb _ HB.out).mono ?_)
            rintro _ w1 ⟨rfl, b1⟩
            have hown1 := hown.next b1 (Nat.le_refl _)
            have hbel1 := bstep hbel b1
            clear c0 c1 c2 c3 c4 c5 c6 hown hbel b1
            cases bb
            · have HE : Hid (curN F m (j + 1) = curN F m j) := by unfold Hid curN; rw [HS2.out, Bool.or_false]
              go_wp2_with fail
              go_roundw
              case rel => exact show SnI _ _ _ _ _ _ from ⟨j + 1, by omega, by go_num, by rw [HE.out]; exact hown1, hbel1⟩
              case measure => simp [intOf]; omega
            · have hhas := curN_has F m j
              obtain ⟨hh, hhh⟩ : ∃ hh, hitF (F.take j) m = hh := ⟨_, rfl⟩
              rw [hhh] at hhas
              have HHH := hid' hhh
              have HHAS := hid' hhas
              clear hhh hhas
              go_wp2_with fail
              (with_reducible refine (l1Has_b _ (curN F m j) _ (m : Int) _ hh hown1.rv (by omega) HHAS.out).mono ?_)
              rintro _ _ ⟨rfl, rfl⟩
              cases hh
              · have HE : Hid (curN F m (j + 1) = curN F m j ++ [(m : Int)]) := by unfold Hid curN; rw [HS2.out, HHH.out]; simp
                go_wp2_with (at_builtin; refine wpList_push _ rfl _ _ 33 rfl w.heap.size 3 j0 (.int .i64 0) 8 Try.underlying33 ji jz0 jz1 jz2 rfl _ _ rfl hown1 _ rfl rfl hlen1 (by decide) hbel1.size ?_; intro v' w3 hown3 hbel3)
                go_roundw
                case rel => exact show SnI _ _ _ _ _ _ from ⟨j + 1, by omega, by go_num, by rw [HE.out, List.map_append]; exact hown3, hbel1.trans hbel3⟩
                case measure => simp [intOf]; omega
              · have HE : Hid (curN F m (j + 1) = curN F m j) := by unfold Hid curN; rw [HS2.out, HHH.out]; simp
                go_wp2_with fail
                go_roundw
                case rel => exact show SnI _ _ _ _ _ _ from ⟨j + 1, by omega, by go_num, by rw [HE.out]; exact hown1, hbel1⟩
                case measure => simp [intOf]; omega
          · have e1 : (p == (m : Int)) = false := beq_eq_false_iff_ne.2 hp
            have HE : Hid (curN F m (j + 1) = curN F m j) := by unfold Hid curN; rw [HS.out, decide_eq_false hp, Bool.false_and, Bool.or_false]
            clear hp HS HO
            go_wp2_with fail
            go_roundw
            case rel => exact show SnI _ _ _ _ _ _ from ⟨j + 1, by omega, by go_num, by rw [HE.out]; exact hown, hbel⟩
            case measure => simp [intOf]; omega
        · have HE := hid' (curN_end F m j (by omega) (by omega))
          rw [HE.out] at hown
          have hlt3 : (F.length : Int) ≤ (j : Int) := by omega
          clear hlt2
          go_wp2_with fail
          go_roundw
          case rel => exact show SnO _ _ _ _ _ from ⟨m + 1, by omega, by omega, by go_num, hown, hbel⟩
          case measure => simp [intOf]; omega
    · have hm3 : m = 997 := by omega
      subst hm3
      go_wp2_with fail
      go_ret
      exact newrow_of hown hbel
end Go.Proofs.Ytcocknfdafmfnaa
