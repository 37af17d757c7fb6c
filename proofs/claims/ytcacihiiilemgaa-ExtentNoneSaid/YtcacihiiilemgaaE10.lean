/- Part of the proof: contracts of the functions, walked by the D-machine. No condition. -/
import Derived.Test.YtcacihiiilemgaaE9
set_option linter.unusedSimpArgs false
set_option linter.unusedVariables false
set_option maxHeartbeats 40000000
set_option maxRecDepth 100000
namespace Go.Proofs.Dm
open Go Go.Proofs Go.Proofs.Try
attribute [local simp] takes handsOn isTmp Op.operands Call.operands
theorem none_ok {W0 nb} : DCalls ⟨Try.prog, W0, nb⟩ 8 [] [] (bl true) [] := by
  refine dcalls_end Try.func8 rfl (by kernel_rfl) 52 Try.ntmps8 #[.tmp 0] rfl (Nat.le_of_ble_eq_true rfl) ?_
  simp
  refine CallGoal.same take_nil ?_
  simp (maxSteps := 3000000)
  refine CallGoal.same begun_ok ?_
  simp (maxSteps := 3000000)
  refine CallGoal.same use_nil ?_
  simp (maxSteps := 3000000)
  refine CallGoal.same give_nil ?_
  simp (maxSteps := 3000000)
  refine CallGoal.same free_nil ?_
  simp (maxSteps := 3000000)
  refine CallGoal.same spans_nil ?_
  simp (maxSteps := 3000000) [rowsS]
  refine CallGoal.same copy_nil ?_
  simp (maxSteps := 3000000)
  refine CallGoal.same (new_no (at_ := -1) (n := 5) (.inl (by omega))) ?_
  simp (maxSteps := 3000000)
  refine CallGoal.same free_none ?_
  simp (maxSteps := 3000000)
  refine CallGoal.same (new_no (at_ := 0) (n := 2049) (.inr (.inr (by omega)))) ?_
  simp (maxSteps := 3000000)
  refine CallGoal.same free_none ?_
  simp (maxSteps := 3000000)
  exact .keep (by simp) (.refl _) (by simp) (by simp) (by simp) (by simp)
