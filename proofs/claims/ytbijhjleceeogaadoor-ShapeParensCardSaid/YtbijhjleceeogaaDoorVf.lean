/- Part of the proof: contracts of the functions, walked by the D-machine. No condition. -/
import Derived.Test.YtbijhjleceeogaaDoorVe
import Derived.KernelRfl
set_option linter.unusedSimpArgs false
set_option linter.unusedVariables false
set_option maxHeartbeats 8000000
set_option maxRecDepth 100000
set_option Elab.async false
namespace Go.Proofs.Dm
open Go Go.Proofs Go.Proofs.Tryd Go.Proofs.Dm.Sc
namespace Sh
open Gr
attribute [local simp] encT encN encNs takes handsOn isTmp Op.operands Call.operands
theorem pk0 : chk 0 = true := by kernel_rfl
theorem pk1 : chk 1 = true := by kernel_rfl
theorem pk2 : chk 2 = true := by kernel_rfl
theorem pk3 : chk 3 = true := by kernel_rfl
theorem pk4 : chk 4 = true := by kernel_rfl
theorem pk5 : chk 5 = true := by kernel_rfl
theorem pk6 : chk 6 = true := by kernel_rfl
theorem pk7 : chk 7 = true := by kernel_rfl
theorem pk8 : chk 8 = true := by kernel_rfl
theorem pk9 : chk 9 = true := by kernel_rfl
theorem pk10 : chk 10 = true := by kernel_rfl
theorem pk11 : chk 11 = true := by kernel_rfl
theorem pk12 : chk 12 = true := by kernel_rfl
theorem pk13 : chk 13 = true := by kernel_rfl
theorem pk14 : chk 14 = true := by kernel_rfl
theorem pk15 : chk 15 = true := by kernel_rfl
end Sh
end Go.Proofs.Dm
