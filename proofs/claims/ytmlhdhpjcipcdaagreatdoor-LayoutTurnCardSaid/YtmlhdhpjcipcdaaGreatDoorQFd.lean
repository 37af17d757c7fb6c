/- Part of the proof: closed facts of the program, reckoned by the kernel. No condition. -/
import Derived.Test.YtmlhdhpjcipcdaaGreatDoorRows
import Derived.JoinedCond
import Derived.KernelRfl
import Derived.WalkKit
import Derived.SevenTiedAt
namespace Go.Proofs.YtmlhdhpjcipcdaaGreatDoor.facts
open Go Go.ChangeShapes Go.WideShapes Go.ChangeAt Go.RowKit
theorem d1 : Tryz.pinned.checked.prog.mainIs = some (true, "f37745dba9c26587b558f43ca97f1ba7445e08bfb98746c70e9354807e23b08e".toList) := by kernel_rfl
end Go.Proofs.YtmlhdhpjcipcdaaGreatDoor.facts
