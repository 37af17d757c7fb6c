/- Part of the proof: closed facts of the program, reckoned by the kernel. No condition. -/
import Derived.Test.YtmlhdhpjcipcdaaGreatDoorRows
import Derived.JoinedCond
import Derived.KernelRfl
import Derived.WalkKit
import Derived.SevenTiedAt
namespace Go.Proofs.YtmlhdhpjcipcdaaGreatDoor.facts
open Go Go.ChangeShapes Go.WideShapes Go.ChangeAt Go.RowKit
theorem a1 : laidOutB Tryz.pinned.checked.prog = true := by kernel_rfl
end Go.Proofs.YtmlhdhpjcipcdaaGreatDoor.facts

namespace Go.Proofs.YtmlhdhpjcipcdaaGreatDoor.facts
open Go Go.ChangeShapes Go.WideShapes Go.ChangeAt Go.RowKit
theorem b1 : mapsRowed Tryz.pinned.checked.prog = true := by kernel_rfl
theorem b2 : Program.stopsHeard Tryz.pinned.checked.prog = true := by kernel_rfl
end Go.Proofs.YtmlhdhpjcipcdaaGreatDoor.facts

namespace Go.Proofs.YtmlhdhpjcipcdaaGreatDoor.facts
open Go Go.ChangeShapes Go.WideShapes Go.ChangeAt Go.RowKit
theorem e1 : false = Tryz.pinned.checked.prog.looks [] := by kernel_rfl
end Go.Proofs.YtmlhdhpjcipcdaaGreatDoor.facts
