/- Part of the proof: closed facts on types. No condition. -/
import Derived.Test.YtmlhdhpjcipcdaaGreatDoorLF
set_option linter.unusedSimpArgs false
namespace Go.Proofs.Tryz
open Go Go.Proofs Go.Proofs.Dm
@[simp] theorem tsz_87 : tsz prog 87 = some 2 := by kernel_rfl
@[simp] theorem tagg_87 : tagg prog 87 = some true := by kernel_rfl
@[simp] theorem tcells_87 : tcells prog 87 = [9, 9] := by kernel_rfl
@[simp] theorem tslice_87 : tslice prog 87 = none := by kernel_rfl
@[simp] theorem tkind_87 : tkind prog 87 = some 4 := by kernel_rfl
@[simp] theorem tint_87 : tint prog 87 = none := by kernel_rfl
@[simp] theorem tbytes_87 : tbytes prog 87 = some 32 := by kernel_rfl
@[simp] theorem tplaces_87 : tplaces prog 87 = some [(0, 1), (1, 1)] := by kernel_rfl
@[simp] theorem tzero_87 : tzero prog 87 = some (Value.agg #[Value.string ⟨#[]⟩, Value.string ⟨#[]⟩]) := by kernel_rfl
@[simp] theorem tptr_87 : tptr prog 87 = false := by kernel_rfl
@[simp] theorem tflat_87 : tflat prog 87 = some [0, 0] := by kernel_rfl
@[simp] theorem tbuild_87 : tbuild prog 87 = none := by kernel_rfl
@[simp] theorem tfield_87_0 : tfield prog 87 0 = some (0, 1, false) := by kernel_rfl
@[simp] theorem tfield_87_1 : tfield prog 87 1 = some (1, 1, false) := by kernel_rfl
@[simp] theorem tsz_88 : tsz prog 88 = some 1 := by kernel_rfl
@[simp] theorem tagg_88 : tagg prog 88 = some false := by kernel_rfl
@[simp] theorem tcells_88 : tcells prog 88 = [88] := by kernel_rfl
@[simp] theorem tslice_88 : tslice prog 88 = some 87 := by kernel_rfl
@[simp] theorem tkind_88 : tkind prog 88 = some 3 := by kernel_rfl
@[simp] theorem tint_88 : tint prog 88 = none := by kernel_rfl
@[simp] theorem tbytes_88 : tbytes prog 88 = some 24 := by kernel_rfl
@[simp] theorem tplaces_88 : tplaces prog 88 = none := by kernel_rfl
@[simp] theorem tzero_88 : tzero prog 88 = some (Value.slice none 0 0) := by kernel_rfl
@[simp] theorem tptr_88 : tptr prog 88 = false := by kernel_rfl
@[simp] theorem tflat_88 : tflat prog 88 = none := by kernel_rfl
@[simp] theorem tbuild_88 : tbuild prog 88 = none := by kernel_rfl
@[simp] theorem tsz_91 : tsz prog 91 = some 4 := by kernel_rfl
@[simp] theorem tagg_91 : tagg prog 91 = some true := by kernel_rfl
@[simp] theorem tcells_91 : tcells prog 91 = [3, 3, 3, 3] := by kernel_rfl
@[simp] theorem tslice_91 : tslice prog 91 = none := by kernel_rfl
@[simp] theorem tkind_91 : tkind prog 91 = some 4 := by kernel_rfl
@[simp] theorem tint_91 : tint prog 91 = none := by kernel_rfl
@[simp] theorem tbytes_91 : tbytes prog 91 = some 32 := by kernel_rfl
@[simp] theorem tplaces_91 : tplaces prog 91 = some [(0, 1), (1, 1), (2, 1), (3, 1)] := by kernel_rfl
@[simp] theorem tzero_91 : tzero prog 91 = some (Value.agg #[Value.int IntKind.i64 0, Value.int IntKind.i64 0, Value.int IntKind.i64 0, Value.int IntKind.i64 0]) := by kernel_rfl
@[simp] theorem tptr_91 : tptr prog 91 = false := by kernel_rfl
@[simp] theorem tflat_91 : tflat prog 91 = some [2, 2, 2, 2] := by kernel_rfl
@[simp] theorem tbuild_91 : tbuild prog 91 = none := by kernel_rfl
@[simp] theorem tfield_91_0 : tfield prog 91 0 = some (0, 1, false) := by kernel_rfl
@[simp] theorem tfield_91_1 : tfield prog 91 1 = some (1, 1, false) := by kernel_rfl
@[simp] theorem tfield_91_2 : tfield prog 91 2 = some (2, 1, false) := by kernel_rfl
@[simp] theorem tfield_91_3 : tfield prog 91 3 = some (3, 1, false) := by kernel_rfl
@[simp] theorem tsz_92 : tsz prog 92 = some 1 := by kernel_rfl
@[simp] theorem tagg_92 : tagg prog 92 = some false := by kernel_rfl
@[simp] theorem tcells_92 : tcells prog 92 = [92] := by kernel_rfl
@[simp] theorem tslice_92 : tslice prog 92 = some 91 := by kernel_rfl
@[simp] theorem tkind_92 : tkind prog 92 = some 3 := by kernel_rfl
@[simp] theorem tint_92 : tint prog 92 = none := by kernel_rfl
@[simp] theorem tbytes_92 : tbytes prog 92 = some 24 := by kernel_rfl
@[simp] theorem tplaces_92 : tplaces prog 92 = none := by kernel_rfl
@[simp] theorem tzero_92 : tzero prog 92 = some (Value.slice none 0 0) := by kernel_rfl
@[simp] theorem tptr_92 : tptr prog 92 = false := by kernel_rfl
@[simp] theorem tflat_92 : tflat prog 92 = none := by kernel_rfl
@[simp] theorem tbuild_92 : tbuild prog 92 = none := by kernel_rfl
@[simp] theorem tsz_97 : tsz prog 97 = some 1 := by kernel_rfl
@[simp] theorem tagg_97 : tagg prog 97 = some false := by kernel_rfl
@[simp] theorem tcells_97 : tcells prog 97 = [97] := by kernel_rfl
@[simp] theorem tslice_97 : tslice prog 97 = some 102 := by kernel_rfl
@[simp] theorem tkind_97 : tkind prog 97 = some 3 := by kernel_rfl
@[simp] theorem tint_97 : tint prog 97 = none := by kernel_rfl
@[simp] theorem tbytes_97 : tbytes prog 97 = some 24 := by kernel_rfl
@[simp] theorem tplaces_97 : tplaces prog 97 = none := by kernel_rfl
@[simp] theorem tzero_97 : tzero prog 97 = some (Value.slice none 0 0) := by kernel_rfl
@[simp] theorem tptr_97 : tptr prog 97 = false := by kernel_rfl
@[simp] theorem tflat_97 : tflat prog 97 = none := by kernel_rfl
@[simp] theorem tbuild_97 : tbuild prog 97 = none := by kernel_rfl
@[simp] theorem tsz_102 : tsz prog 102 = some 2 := by kernel_rfl
@[simp] theorem tagg_102 : tagg prog 102 = some true := by kernel_rfl
@[simp] theorem tcells_102 : tcells prog 102 = [9, 3] := by kernel_rfl
@[simp] theorem tslice_102 : tslice prog 102 = none := by kernel_rfl
@[simp] theorem tkind_102 : tkind prog 102 = some 4 := by kernel_rfl
@[simp] theorem tint_102 : tint prog 102 = none := by kernel_rfl
@[simp] theorem tbytes_102 : tbytes prog 102 = some 24 := by kernel_rfl
@[simp] theorem tplaces_102 : tplaces prog 102 = some [(0, 1), (1, 1)] := by kernel_rfl
@[simp] theorem tzero_102 : tzero prog 102 = some (Value.agg #[Value.string ⟨#[]⟩, Value.int IntKind.i64 0]) := by kernel_rfl
@[simp] theorem tptr_102 : tptr prog 102 = false := by kernel_rfl
@[simp] theorem tflat_102 : tflat prog 102 = some [0, 2] := by kernel_rfl
@[simp] theorem tbuild_102 : tbuild prog 102 = none := by kernel_rfl
@[simp] theorem tfield_102_0 : tfield prog 102 0 = some (0, 1, false) := by kernel_rfl
@[simp] theorem tfield_102_1 : tfield prog 102 1 = some (1, 1, false) := by kernel_rfl
@[simp] theorem zc_87 : ((Value.agg #[Value.string ⟨#[]⟩, Value.string ⟨#[]⟩]) : Value).cells.size = 2 := by kernel_rfl
@[simp] theorem zc_88 : ((Value.slice none 0 0) : Value).cells.size = 1 := by kernel_rfl
@[simp] theorem zc_91 : ((Value.agg #[Value.int IntKind.i64 0, Value.int IntKind.i64 0, Value.int IntKind.i64 0, Value.int IntKind.i64 0]) : Value).cells.size = 4 := by kernel_rfl
@[simp] theorem zc_92 : ((Value.slice none 0 0) : Value).cells.size = 1 := by kernel_rfl
@[simp] theorem zc_97 : ((Value.slice none 0 0) : Value).cells.size = 1 := by kernel_rfl
@[simp] theorem zc_102 : ((Value.agg #[Value.string ⟨#[]⟩, Value.int IntKind.i64 0]) : Value).cells.size = 2 := by kernel_rfl
end Go.Proofs.Tryz
