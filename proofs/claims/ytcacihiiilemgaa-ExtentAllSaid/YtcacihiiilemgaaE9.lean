/- Part of the proof: contracts of the functions, walked by the D-machine. No condition. -/
import Derived.Test.YtcacihiiilemgaaE7
set_option linter.unusedSimpArgs false
set_option linter.unusedVariables false
set_option maxHeartbeats 40000000
set_option maxRecDepth 100000
namespace Go.Proofs.Dm
open Go Go.Proofs Go.Proofs.Try
attribute [local simp] takes handsOn isTmp Op.operands Call.operands
def tens : List Bool := List.replicate 10 true
theorem begun_ok {W0 nb} : DCalls ⟨Try.prog, W0, nb⟩ 9 [] [] (bl true) [] := by
  refine dcalls_end Try.func9 rfl (by kernel_rfl) 100 Try.ntmps9 #[.tmp 0] rfl (Nat.le_of_ble_eq_true rfl) ?_
  simp
  refine CallGoal.same (new_ok (at_ := 2) (n := 10) (by omega) (by omega)) ?_
  simp
  have a1 : takeR 2 tens 3 = .tup [.agg [i64 2, i64 3], bl true] := by rfl
  have a2 : takeF 2 tens 3 = [false, false, false, true, true, true, true, true, true, true] := by rfl
  refine CallGoal.same (take_ok (at_ := 2) (n := 3) (fr := tens) (by omega) (by omega) (by decide)) ?_
  rw [a1, a2]
  simp (maxSteps := 3000000) [room]
  have b1 : allP 2 [false, false, false, true, true, true, true, true, true, true] 6 2 true = true := by rfl
  have b2 : setP 2 [false, false, false, true, true, true, true, true, true, true] 6 2 false = [false, false, false, true, false, false, true, true, true, true] := by rfl
  refine CallGoal.same (use_ok (at_ := 2) (a := 6) (l := 2) (fr := [false, false, false, true, true, true, true, true, true, true]) (by omega) (by omega) (by decide) (by omega)) ?_
  rw [b1, b2]
  simp (maxSteps := 3000000) [room]
  have c1 : allP 2 [false, false, false, true, false, false, true, true, true, true] 3 1 false = true := by rfl
  have c2 : setP 2 [false, false, false, true, false, false, true, true, true, true] 3 1 true = [false, true, false, true, false, false, true, true, true, true] := by rfl
  refine CallGoal.same (give_ok (at_ := 2) (a := 3) (l := 1) (fr := [false, false, false, true, false, false, true, true, true, true]) (by omega) (by omega) (by decide) (by omega)) ?_
  rw [c1, c2]
  simp (maxSteps := 3000000) [room]
  have d1 : takeR 2 [false, true, false, true, false, false, true, true, true, true] 5 = .tup [.agg [i64 0, i64 0], bl false] := by rfl
  have d2 : takeF 2 [false, true, false, true, false, false, true, true, true, true] 5 = [false, true, false, true, false, false, true, true, true, true] := by rfl
  refine CallGoal.same (take_ok (at_ := 2) (n := 5) (fr := [false, true, false, true, false, false, true, true, true, true]) (by omega) (by omega) (by decide)) ?_
  rw [d1, d2]
  simp (maxSteps := 3000000) [room]
  have e1 : spansP 2 [false, true, false, true, false, false, true, true, true, true] = [(3, 1), (5, 1), (8, 4)] := by rfl
  refine CallGoal.same (spans_ok (at_ := 2) (fr := [false, true, false, true, false, false, true, true, true, true]) (by omega) (by omega) (by decide)) ?_
  rw [e1]
  simp (maxSteps := 3000000) [room, rowsS, encS]
  refine CallGoal.same (free_ok (at_ := 2) (fr := [false, true, false, true, false, false, true, true, true, true]) (by omega) (by omega) (by decide)) ?_
  simp (maxSteps := 3000000) [room]
  have f1 : allP 2 [false, true, false, true, false, false, true, true, true, true] 8 1 false = false := by rfl
  have f2 : setP 2 [false, true, false, true, false, false, true, true, true, true] 8 1 true = [false, true, false, true, false, false, true, true, true, true] := by rfl
  refine CallGoal.same (give_ok (at_ := 2) (a := 8) (l := 1) (fr := [false, true, false, true, false, false, true, true, true, true]) (by omega) (by omega) (by decide) (by omega)) ?_
  rw [f1, f2]
  simp (maxSteps := 3000000) [room]
  refine CallGoal.same (new_ok (at_ := 0) (n := 0) (by omega) (by omega)) ?_
  simp
  refine CallGoal.same (free_ok (at_ := 0) (fr := []) (by omega) (by omega) (by decide)) ?_
  simp (maxSteps := 3000000) [room]
  exact .keep (by simp) (.refl _) (by simp) (by simp) (by simp) (by simp)
