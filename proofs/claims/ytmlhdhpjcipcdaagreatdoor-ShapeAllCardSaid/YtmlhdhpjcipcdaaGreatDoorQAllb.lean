/- Part of the proof: closed facts of the program, reckoned by the kernel. No condition. -/
import Derived.Test.YtmlhdhpjcipcdaaGreatDoorQAlla
import Derived.Test.YtmlhdhpjcipcdaaGreatDoorQFa
import Derived.Test.YtmlhdhpjcipcdaaGreatDoorQFc
import Derived.Test.YtmlhdhpjcipcdaaGreatDoorQAllc
import Derived.Test.YtmlhdhpjcipcdaaGreatDoorQAlld
import Derived.Test.YtmlhdhpjcipcdaaGreatDoorQAlle
import Derived.JoinedCond
namespace Go.Proofs.YtmlhdhpjcipcdaaGreatDoor.shapeAll
open Go.ChangeShapes Go.WideShapes Go.ChangeAt Go.RowKit Go.Proofs.Dm Go.Shelf Go.Lib
open Go.ChangeMaps (open_string shut_string)
set_option linter.unusedVariables false
set_option maxRecDepth 100000 in
set_option maxHeartbeats 4000000 in
theorem over : Rows.ShapeAllSaid := by
  refine OpenClaim.holds_of_cond 3 Tryz.f3 rfl rfl rfl rfl rfl rfl rfl ⟨rfl, rfl, rfl, rfl, rfl⟩ rfl rfl rfl rfl rfl (by kernel_rfl) Tryz.func3 ?jf
    (of_decide_eq_true (by kernel_rfl)) (by unfold Func.isWrapper; first | (rw [if_pos (by decide +kernel)]; kernel_rfl) | (rw [if_neg (by decide +kernel)]; exact ⟨rfl, rfl⟩))
    (fun os started H enc _ F0 => by rw [OpenClaim.pre_eq_preRow]; exact lifted os started H enc F0)
  unfold joinedFacts
  repeat' (with_reducible refine (Bool.and_eq_true _ _).mpr ⟨?_, ?_⟩)
  all_goals first | with_reducible exact Go.Proofs.YtmlhdhpjcipcdaaGreatDoor.facts.a1 | with_reducible exact Go.Proofs.YtmlhdhpjcipcdaaGreatDoor.facts.b1 | with_reducible exact Go.Proofs.YtmlhdhpjcipcdaaGreatDoor.facts.b2 | with_reducible exact Go.Proofs.YtmlhdhpjcipcdaaGreatDoor.facts.c1 | with_reducible exact Go.Proofs.YtmlhdhpjcipcdaaGreatDoor.shapeAllRow.c2 | with_reducible exact Go.Proofs.YtmlhdhpjcipcdaaGreatDoor.shapeAllRow.d1 | with_reducible exact Go.Proofs.YtmlhdhpjcipcdaaGreatDoor.shapeAllRow.d2 | with_reducible exact Go.Proofs.YtmlhdhpjcipcdaaGreatDoor.shapeAllRow.f1 | with_reducible exact Go.Proofs.YtmlhdhpjcipcdaaGreatDoor.shapeAllRow.f2 | with_reducible exact Go.Proofs.YtmlhdhpjcipcdaaGreatDoor.shapeAllRow.f3 | with_reducible exact Go.Proofs.YtmlhdhpjcipcdaaGreatDoor.shapeAllRow.f4 | kernel_rfl
end Go.Proofs.YtmlhdhpjcipcdaaGreatDoor.shapeAll
