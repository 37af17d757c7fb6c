/- Part of the proof: contracts of the functions, walked by the D-machine. No condition. -/
import Derived.Test.YtcacihiiilemgaaE6
set_option linter.unusedSimpArgs false
set_option linter.unusedVariables false
set_option maxHeartbeats 4000000
namespace Go.Proofs.Dm
open Go Go.Proofs Go.Proofs.Try
attribute [local simp] takes handsOn isTmp Op.operands Call.operands
theorem clone_ok {W0 nb} {fr : List Bool} {k : Nat} (h0 : fr.length = k + 1) (h3 : fr.length ≤ 100000) :
    DCalls ⟨Try.prog, W0, nb⟩ 20 [.arr 0 0 1 (k + 1)] [fbox fr] (.arr 1 0 1 (k + 1)) [fbox fr, fbox fr] := by
  refine dcalls_end Try.func20 rfl (by kernel_rfl) 8 Try.ntmps20 #[.tmp 2] rfl (Nat.le_of_ble_eq_true rfl) ?_
  have e1 : k + 1 ≤ fr.length := by omega
  have e2 : ¬ (fr = []) := by intro e; subst e; simp at h0
  have e3 : fr.take (k + 1) = fr := List.take_of_length_le (by omega)
  have e4 : k + 1 ≤ 9223372036854775807 := by omega
  have e5 : k + 1 ≤ 140737488355328 := by omega
  simp [e1, e2, e3, e4, e5]
  exact .all (by simp) (.refl _) (by simp) (by simp) (by simp) (by simp) (by simp)
theorem copy_ok {W0 nb} {at_ : Int} {fr : List Bool} (h0 : 0 < fr.length) (h3 : fr.length ≤ 100000) :
    DCalls ⟨Try.prog, W0, nb⟩ 17 [.ref 0 0] (room at_ fr) (.ref 3 0) (room at_ fr ++ [fbox fr, [i64 at_, .arr 2 0 1 fr.length]]) := by
  obtain ⟨k, hk⟩ : ∃ k, fr.length = k + 1 := ⟨fr.length - 1, by omega⟩
  unfold room
  rw [hk]
  refine dcalls_end Try.func17 rfl (by kernel_rfl) 16 Try.ntmps17 #[.tmp 2] rfl (Nat.le_of_ble_eq_true rfl) ?_
  simp
  refine drawWp.intro [(3, 7), (3, 8)] [7, 8] mixed (by kernel_rfl) (by kernel_rfl) (by kernel_rfl) ?_
  simp
  refine CallGoal.same (clone_ok hk h3) ?_
  simp
  refine ⟨by simp [pairsOK, compatDyn, lowOK, allLt, labD, skips, guardD, looksG, guardSlot, looksD, goneD, eatsT, eats, goneL, rdD, wrD, simpleD, anyOwn, disj], by simp [pairsOK, compatDyn, lowOK, allLt, labD, skips, guardD, looksG, guardSlot, looksD, goneD, eatsT, eats, goneL, rdD, wrD, simpleD, anyOwn, disj], ?_⟩
  simp
  exact .all (by simp) (.refl _) (by simp) (by simp) (by simp) (by simp) (by simp)
theorem copy_nil {W0 nb} : DCalls ⟨Try.prog, W0, nb⟩ 17 [.p .nilp] [] (.p .nilp) [] := by
  refine dcalls_end Try.func17 rfl (by kernel_rfl) 16 Try.ntmps17 #[.tmp 2] rfl (Nat.le_of_ble_eq_true rfl) ?_
  simp
  exact .keep (by simp) (.refl _) (by simp) (by simp) (by simp) (by simp)
theorem new_ok {W0 nb} {at_ : Int} {n : Nat} (h1 : 0 ≤ at_) (h2 : n ≤ 2048) :
    DCalls ⟨Try.prog, W0, nb⟩ 10 [i64 at_, i64 n] [] (.ref 1 0) [fbox (List.replicate n true), [i64 at_, .arr 0 0 1 n]] := by
  refine dcalls_end Try.func10 rfl (by kernel_rfl) 23 Try.ntmps10 #[.tmp 4] rfl (Nat.le_of_ble_eq_true rfl) ?_
  have e1 : ¬ (at_ < 0) := by omega
  have e2 : ¬ ((n : Int) < 0) := by omega
  have e3 : ¬ (2048 < (n : Int)) := by omega
  simp [e1, e2, e3]
  refine CallGoal.intro (repeat_ok (by omega)) (.cons (.fr _ _ _) (.cons (.refl _) .nil)) ?_
  simp
  exact .all (by simp) (.refl _) (by simp) (by simp) (by simp) (by simp) (by simp)
theorem new_no {W0 nb} {at_ n : Int} (h1 : at_ < 0 ∨ n < 0 ∨ 2048 < n) :
    DCalls ⟨Try.prog, W0, nb⟩ 10 [i64 at_, i64 n] [] (.ref 0 0) [[i64 0, .p (.sl 1 [])]] := by
  refine dcalls_end Try.func10 rfl (by kernel_rfl) 23 Try.ntmps10 #[.tmp 4] rfl (Nat.le_of_ble_eq_true rfl) ?_
  by_cases e1 : at_ < 0
  · simp [e1]
    exact .all (by simp) (.refl _) (by simp) (by simp) (by simp) (by simp) (by simp)
  · by_cases e2 : n < 0
    · simp [e1, e2]
      exact .all (by simp) (.refl _) (by simp) (by simp) (by simp) (by simp) (by simp)
    · have e3 : 2048 < n := by omega
      simp [e1, e2, e3]
      exact .all (by simp) (.refl _) (by simp) (by simp) (by simp) (by simp) (by simp)
