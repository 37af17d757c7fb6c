/- Part of the proof: closed facts of the program, reckoned by the kernel. No condition. -/
import Derived.Test.YtmlhdhpjcipcdaaGreatDoorRows
import Derived.JoinedCond
import Derived.KernelRfl
import Derived.WalkKit
namespace Go.Proofs.YtmlhdhpjcipcdaaGreatDoor.facts
open Go Go.ChangeShapes Go.WideShapes Go.ChangeAt Go.RowKit
theorem c1 : Program.mayEnter Tryz.pinned.checked.prog = true := by kernel_rfl
end Go.Proofs.YtmlhdhpjcipcdaaGreatDoor.facts
