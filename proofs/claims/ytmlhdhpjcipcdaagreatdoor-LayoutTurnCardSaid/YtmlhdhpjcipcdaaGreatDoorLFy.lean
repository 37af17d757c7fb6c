/- Part of the proof: closed facts on types. No condition. -/
import Derived.Test.YtmlhdhpjcipcdaaGreatDoorLF
set_option linter.unusedSimpArgs false
namespace Go.Proofs.Tryz
open Go Go.Proofs Go.Proofs.Dm
@[simp] theorem tsz_75 : tsz prog 75 = some 1 := by kernel_rfl
@[simp] theorem tagg_75 : tagg prog 75 = some false := by kernel_rfl
@[simp] theorem tcells_75 : tcells prog 75 = [75] := by kernel_rfl
@[simp] theorem tslice_75 : tslice prog 75 = some 78 := by kernel_rfl
@[simp] theorem tkind_75 : tkind prog 75 = some 3 := by kernel_rfl
@[simp] theorem tint_75 : tint prog 75 = none := by kernel_rfl
@[simp] theorem tbytes_75 : tbytes prog 75 = some 24 := by kernel_rfl
@[simp] theorem tplaces_75 : tplaces prog 75 = none := by kernel_rfl
@[simp] theorem tzero_75 : tzero prog 75 = some (Value.slice none 0 0) := by kernel_rfl
@[simp] theorem tptr_75 : tptr prog 75 = false := by kernel_rfl
@[simp] theorem tflat_75 : tflat prog 75 = none := by kernel_rfl
@[simp] theorem tbuild_75 : tbuild prog 75 = none := by kernel_rfl
@[simp] theorem tsz_78 : tsz prog 78 = some 4 := by kernel_rfl
@[simp] theorem tagg_78 : tagg prog 78 = some true := by kernel_rfl
@[simp] theorem tcells_78 : tcells prog 78 = [3, 3, 9, 4] := by kernel_rfl
@[simp] theorem tslice_78 : tslice prog 78 = none := by kernel_rfl
@[simp] theorem tkind_78 : tkind prog 78 = some 4 := by kernel_rfl
@[simp] theorem tint_78 : tint prog 78 = none := by kernel_rfl
@[simp] theorem tbytes_78 : tbytes prog 78 = some 40 := by kernel_rfl
@[simp] theorem tplaces_78 : tplaces prog 78 = some [(0, 1), (1, 1), (2, 1), (3, 1)] := by kernel_rfl
@[simp] theorem tzero_78 : tzero prog 78 = some (Value.agg #[Value.int IntKind.i64 0, Value.int IntKind.i64 0, Value.string ⟨#[]⟩, Value.bool false]) := by kernel_rfl
@[simp] theorem tptr_78 : tptr prog 78 = false := by kernel_rfl
@[simp] theorem tflat_78 : tflat prog 78 = some [2, 2, 0, 1] := by kernel_rfl
@[simp] theorem tbuild_78 : tbuild prog 78 = none := by kernel_rfl
@[simp] theorem tfield_78_0 : tfield prog 78 0 = some (0, 1, false) := by kernel_rfl
@[simp] theorem tfield_78_1 : tfield prog 78 1 = some (1, 1, false) := by kernel_rfl
@[simp] theorem tfield_78_2 : tfield prog 78 2 = some (2, 1, false) := by kernel_rfl
@[simp] theorem tfield_78_3 : tfield prog 78 3 = some (3, 1, false) := by kernel_rfl
@[simp] theorem zc_75 : ((Value.slice none 0 0) : Value).cells.size = 1 := by kernel_rfl
@[simp] theorem zc_78 : ((Value.agg #[Value.int IntKind.i64 0, Value.int IntKind.i64 0, Value.string ⟨#[]⟩, Value.bool false]) : Value).cells.size = 4 := by kernel_rfl
end Go.Proofs.Tryz
