/- Part of the proof: contracts of the functions, walked by the D-machine. No condition. -/
import Derived.Test.YtbijhjleceeogaaDoorVe
import Derived.KernelRfl
set_option linter.unusedSimpArgs false
set_option linter.unusedVariables false
set_option maxHeartbeats 8000000
set_option maxRecDepth 100000
set_option Elab.async false
namespace Go.Proofs.Dm
open Go Go.Proofs Go.Proofs.Tryd Go.Proofs.Dm.Sc
namespace Sh
open Gr
attribute [local simp] encT encN encNs takes handsOn isTmp Op.operands Call.operands
theorem pk16 : chk 16 = true := by kernel_rfl
theorem pk17 : chk 17 = true := by kernel_rfl
theorem pk18 : chk 18 = true := by kernel_rfl
theorem pk19 : chk 19 = true := by kernel_rfl
theorem pk20 : chk 20 = true := by kernel_rfl
theorem pk21 : chk 21 = true := by kernel_rfl
theorem pk22 : chk 22 = true := by kernel_rfl
theorem pk23 : chk 23 = true := by kernel_rfl
theorem pk24 : chk 24 = true := by kernel_rfl
theorem pk25 : chk 25 = true := by kernel_rfl
theorem pk26 : chk 26 = true := by kernel_rfl
theorem pk27 : chk 27 = true := by kernel_rfl
theorem pk28 : chk 28 = true := by kernel_rfl
theorem pk29 : chk 29 = true := by kernel_rfl
theorem pk30 : chk 30 = true := by kernel_rfl
end Sh
end Go.Proofs.Dm
