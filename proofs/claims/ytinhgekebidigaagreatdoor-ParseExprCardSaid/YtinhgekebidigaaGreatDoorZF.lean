/- Part of the proof: contracts of the functions, walked by the D-machine. No condition. -/
import Derived.Test.YtinhgekebidigaaGreatDoorDk
import Derived.Test.YtinhgekebidigaaGreatDoorProg
set_option linter.unusedSimpArgs false
namespace Go.Proofs.Tryz
open Go Go.Proofs Go.Proofs.Dm
@[simp] theorem tsz_0 : tsz prog 0 = some 1 := by kernel_rfl
@[simp] theorem tagg_0 : tagg prog 0 = some false := by kernel_rfl
@[simp] theorem tcells_0 : tcells prog 0 = [0] := by kernel_rfl
@[simp] theorem tslice_0 : tslice prog 0 = none := by kernel_rfl
@[simp] theorem tkind_0 : tkind prog 0 = some 4 := by kernel_rfl
@[simp] theorem tint_0 : tint prog 0 = none := by kernel_rfl
@[simp] theorem tbytes_0 : tbytes prog 0 = some 0 := by kernel_rfl
@[simp] theorem tplaces_0 : tplaces prog 0 = none := by kernel_rfl
@[simp] theorem tzero_0 : tzero prog 0 = some (Value.tuple #[]) := by kernel_rfl
@[simp] theorem tptr_0 : tptr prog 0 = false := by kernel_rfl
@[simp] theorem tflat_0 : tflat prog 0 = none := by kernel_rfl
@[simp] theorem tsz_1 : tsz prog 1 = some 1 := by kernel_rfl
@[simp] theorem tagg_1 : tagg prog 1 = some false := by kernel_rfl
@[simp] theorem tcells_1 : tcells prog 1 = [1] := by kernel_rfl
@[simp] theorem tslice_1 : tslice prog 1 = none := by kernel_rfl
@[simp] theorem tkind_1 : tkind prog 1 = some 4 := by kernel_rfl
@[simp] theorem tint_1 : tint prog 1 = none := by kernel_rfl
@[simp] theorem tbytes_1 : tbytes prog 1 = some 8 := by kernel_rfl
@[simp] theorem tplaces_1 : tplaces prog 1 = none := by kernel_rfl
@[simp] theorem tzero_1 : tzero prog 1 = some Value.nilFunc := by kernel_rfl
@[simp] theorem tptr_1 : tptr prog 1 = false := by kernel_rfl
@[simp] theorem tflat_1 : tflat prog 1 = none := by kernel_rfl
@[simp] theorem tsz_2 : tsz prog 2 = some 1 := by kernel_rfl
@[simp] theorem tagg_2 : tagg prog 2 = some false := by kernel_rfl
@[simp] theorem tcells_2 : tcells prog 2 = [2] := by kernel_rfl
@[simp] theorem tslice_2 : tslice prog 2 = none := by kernel_rfl
@[simp] theorem tkind_2 : tkind prog 2 = some 2 := by kernel_rfl
@[simp] theorem tint_2 : tint prog 2 = some IntKind.i64 := by kernel_rfl
@[simp] theorem tbytes_2 : tbytes prog 2 = some 8 := by kernel_rfl
@[simp] theorem tplaces_2 : tplaces prog 2 = none := by kernel_rfl
@[simp] theorem tzero_2 : tzero prog 2 = some (Value.int IntKind.i64 0) := by kernel_rfl
@[simp] theorem tptr_2 : tptr prog 2 = false := by kernel_rfl
@[simp] theorem tflat_2 : tflat prog 2 = none := by kernel_rfl
@[simp] theorem tsz_3 : tsz prog 3 = some 1 := by kernel_rfl
@[simp] theorem tagg_3 : tagg prog 3 = some false := by kernel_rfl
@[simp] theorem tcells_3 : tcells prog 3 = [3] := by kernel_rfl
@[simp] theorem tslice_3 : tslice prog 3 = none := by kernel_rfl
@[simp] theorem tkind_3 : tkind prog 3 = some 2 := by kernel_rfl
@[simp] theorem tint_3 : tint prog 3 = some IntKind.i64 := by kernel_rfl
@[simp] theorem tbytes_3 : tbytes prog 3 = some 8 := by kernel_rfl
@[simp] theorem tplaces_3 : tplaces prog 3 = none := by kernel_rfl
@[simp] theorem tzero_3 : tzero prog 3 = some (Value.int IntKind.i64 0) := by kernel_rfl
@[simp] theorem tptr_3 : tptr prog 3 = false := by kernel_rfl
@[simp] theorem tflat_3 : tflat prog 3 = none := by kernel_rfl
@[simp] theorem tsz_4 : tsz prog 4 = some 1 := by kernel_rfl
@[simp] theorem tagg_4 : tagg prog 4 = some false := by kernel_rfl
@[simp] theorem tcells_4 : tcells prog 4 = [4] := by kernel_rfl
@[simp] theorem tslice_4 : tslice prog 4 = none := by kernel_rfl
@[simp] theorem tkind_4 : tkind prog 4 = some 1 := by kernel_rfl
@[simp] theorem tint_4 : tint prog 4 = none := by kernel_rfl
@[simp] theorem tbytes_4 : tbytes prog 4 = some 1 := by kernel_rfl
@[simp] theorem tplaces_4 : tplaces prog 4 = none := by kernel_rfl
@[simp] theorem tzero_4 : tzero prog 4 = some (Value.bool false) := by kernel_rfl
@[simp] theorem tptr_4 : tptr prog 4 = false := by kernel_rfl
@[simp] theorem tflat_4 : tflat prog 4 = none := by kernel_rfl
@[simp] theorem tsz_5 : tsz prog 5 = some 1 := by kernel_rfl
@[simp] theorem tagg_5 : tagg prog 5 = some false := by kernel_rfl
@[simp] theorem tcells_5 : tcells prog 5 = [5] := by kernel_rfl
@[simp] theorem tslice_5 : tslice prog 5 = none := by kernel_rfl
@[simp] theorem tkind_5 : tkind prog 5 = some 2 := by kernel_rfl
@[simp] theorem tint_5 : tint prog 5 = some IntKind.u8 := by kernel_rfl
@[simp] theorem tbytes_5 : tbytes prog 5 = some 1 := by kernel_rfl
@[simp] theorem tplaces_5 : tplaces prog 5 = none := by kernel_rfl
@[simp] theorem tzero_5 : tzero prog 5 = some (Value.int IntKind.u8 0) := by kernel_rfl
@[simp] theorem tptr_5 : tptr prog 5 = true := by kernel_rfl
@[simp] theorem tflat_5 : tflat prog 5 = none := by kernel_rfl
@[simp] theorem tsz_6 : tsz prog 6 = some 1 := by kernel_rfl
@[simp] theorem tagg_6 : tagg prog 6 = some false := by kernel_rfl
@[simp] theorem tcells_6 : tcells prog 6 = [6] := by kernel_rfl
@[simp] theorem tslice_6 : tslice prog 6 = none := by kernel_rfl
@[simp] theorem tkind_6 : tkind prog 6 = some 2 := by kernel_rfl
@[simp] theorem tint_6 : tint prog 6 = some IntKind.u8 := by kernel_rfl
@[simp] theorem tbytes_6 : tbytes prog 6 = some 1 := by kernel_rfl
@[simp] theorem tplaces_6 : tplaces prog 6 = none := by kernel_rfl
@[simp] theorem tzero_6 : tzero prog 6 = some (Value.int IntKind.u8 0) := by kernel_rfl
@[simp] theorem tptr_6 : tptr prog 6 = false := by kernel_rfl
@[simp] theorem tflat_6 : tflat prog 6 = none := by kernel_rfl
@[simp] theorem tsz_8 : tsz prog 8 = some 4 := by kernel_rfl
@[simp] theorem tagg_8 : tagg prog 8 = some true := by kernel_rfl
@[simp] theorem tcells_8 : tcells prog 8 = [2, 3, 4, 6] := by kernel_rfl
@[simp] theorem tslice_8 : tslice prog 8 = none := by kernel_rfl
@[simp] theorem tkind_8 : tkind prog 8 = some 4 := by kernel_rfl
@[simp] theorem tint_8 : tint prog 8 = none := by kernel_rfl
@[simp] theorem tbytes_8 : tbytes prog 8 = some 24 := by kernel_rfl
@[simp] theorem tplaces_8 : tplaces prog 8 = some [(0, 1), (1, 1), (2, 1), (3, 1)] := by kernel_rfl
@[simp] theorem tzero_8 : tzero prog 8 = some (Value.agg #[Value.int IntKind.i64 0, Value.int IntKind.i64 0, Value.bool false, Value.int IntKind.u8 0]) := by kernel_rfl
@[simp] theorem tptr_8 : tptr prog 8 = false := by kernel_rfl
@[simp] theorem tflat_8 : tflat prog 8 = some [2, 2, 1, 2] := by kernel_rfl
@[simp] theorem tfield_8_0 : tfield prog 8 0 = some (0, 1, false) := by kernel_rfl
@[simp] theorem tfield_8_1 : tfield prog 8 1 = some (1, 1, false) := by kernel_rfl
@[simp] theorem tfield_8_2 : tfield prog 8 2 = some (2, 1, false) := by kernel_rfl
@[simp] theorem tfield_8_3 : tfield prog 8 3 = some (3, 1, false) := by kernel_rfl
@[simp] theorem tsz_9 : tsz prog 9 = some 1 := by kernel_rfl
@[simp] theorem tagg_9 : tagg prog 9 = some false := by kernel_rfl
@[simp] theorem tcells_9 : tcells prog 9 = [9] := by kernel_rfl
@[simp] theorem tslice_9 : tslice prog 9 = none := by kernel_rfl
@[simp] theorem tkind_9 : tkind prog 9 = some 0 := by kernel_rfl
@[simp] theorem tint_9 : tint prog 9 = none := by kernel_rfl
@[simp] theorem tbytes_9 : tbytes prog 9 = some 16 := by kernel_rfl
@[simp] theorem tplaces_9 : tplaces prog 9 = none := by kernel_rfl
@[simp] theorem tzero_9 : tzero prog 9 = some (Value.string ⟨#[]⟩) := by kernel_rfl
@[simp] theorem tptr_9 : tptr prog 9 = false := by kernel_rfl
@[simp] theorem tflat_9 : tflat prog 9 = none := by kernel_rfl
@[simp] theorem tsz_12 : tsz prog 12 = some 1 := by kernel_rfl
@[simp] theorem tagg_12 : tagg prog 12 = some false := by kernel_rfl
@[simp] theorem tcells_12 : tcells prog 12 = [12] := by kernel_rfl
@[simp] theorem tslice_12 : tslice prog 12 = none := by kernel_rfl
@[simp] theorem tkind_12 : tkind prog 12 = some 2 := by kernel_rfl
@[simp] theorem tint_12 : tint prog 12 = some IntKind.u64 := by kernel_rfl
@[simp] theorem tbytes_12 : tbytes prog 12 = some 8 := by kernel_rfl
@[simp] theorem tplaces_12 : tplaces prog 12 = none := by kernel_rfl
@[simp] theorem tzero_12 : tzero prog 12 = some (Value.int IntKind.u64 0) := by kernel_rfl
@[simp] theorem tptr_12 : tptr prog 12 = false := by kernel_rfl
@[simp] theorem tflat_12 : tflat prog 12 = none := by kernel_rfl
@[simp] theorem tsz_13 : tsz prog 13 = some 2 := by kernel_rfl
@[simp] theorem tagg_13 : tagg prog 13 = some true := by kernel_rfl
@[simp] theorem tcells_13 : tcells prog 13 = [9, 12] := by kernel_rfl
@[simp] theorem tslice_13 : tslice prog 13 = none := by kernel_rfl
@[simp] theorem tkind_13 : tkind prog 13 = some 4 := by kernel_rfl
@[simp] theorem tint_13 : tint prog 13 = none := by kernel_rfl
@[simp] theorem tbytes_13 : tbytes prog 13 = some 24 := by kernel_rfl
@[simp] theorem tplaces_13 : tplaces prog 13 = some [(0, 1), (1, 1)] := by kernel_rfl
@[simp] theorem tzero_13 : tzero prog 13 = some (Value.agg #[Value.string ⟨#[]⟩, Value.int IntKind.u64 0]) := by kernel_rfl
@[simp] theorem tptr_13 : tptr prog 13 = false := by kernel_rfl
@[simp] theorem tflat_13 : tflat prog 13 = none := by kernel_rfl
@[simp] theorem tfield_13_0 : tfield prog 13 0 = some (0, 1, false) := by kernel_rfl
@[simp] theorem tfield_13_1 : tfield prog 13 1 = some (1, 1, false) := by kernel_rfl
@[simp] theorem tsz_17 : tsz prog 17 = some 1 := by kernel_rfl
@[simp] theorem tagg_17 : tagg prog 17 = some false := by kernel_rfl
@[simp] theorem tcells_17 : tcells prog 17 = [17] := by kernel_rfl
@[simp] theorem tslice_17 : tslice prog 17 = none := by kernel_rfl
@[simp] theorem tkind_17 : tkind prog 17 = some 5 := by kernel_rfl
@[simp] theorem tint_17 : tint prog 17 = none := by kernel_rfl
@[simp] theorem tbytes_17 : tbytes prog 17 = some 8 := by kernel_rfl
@[simp] theorem tplaces_17 : tplaces prog 17 = none := by kernel_rfl
@[simp] theorem tzero_17 : tzero prog 17 = some (Value.pointer none) := by kernel_rfl
@[simp] theorem tptr_17 : tptr prog 17 = false := by kernel_rfl
@[simp] theorem tflat_17 : tflat prog 17 = none := by kernel_rfl
@[simp] theorem tsz_18 : tsz prog 18 = some 1 := by kernel_rfl
@[simp] theorem tagg_18 : tagg prog 18 = some true := by kernel_rfl
@[simp] theorem tcells_18 : tcells prog 18 = [17] := by kernel_rfl
@[simp] theorem tslice_18 : tslice prog 18 = none := by kernel_rfl
@[simp] theorem tkind_18 : tkind prog 18 = some 4 := by kernel_rfl
@[simp] theorem tint_18 : tint prog 18 = none := by kernel_rfl
@[simp] theorem tbytes_18 : tbytes prog 18 = some 8 := by kernel_rfl
@[simp] theorem tplaces_18 : tplaces prog 18 = some [(0, 1)] := by kernel_rfl
@[simp] theorem tzero_18 : tzero prog 18 = some (Value.agg #[Value.pointer none]) := by kernel_rfl
@[simp] theorem tptr_18 : tptr prog 18 = false := by kernel_rfl
@[simp] theorem tflat_18 : tflat prog 18 = none := by kernel_rfl
@[simp] theorem tfield_18_0 : tfield prog 18 0 = some (0, 1, false) := by kernel_rfl
@[simp] theorem tsz_21 : tsz prog 21 = some 1 := by kernel_rfl
@[simp] theorem tagg_21 : tagg prog 21 = some false := by kernel_rfl
@[simp] theorem tcells_21 : tcells prog 21 = [21] := by kernel_rfl
@[simp] theorem tslice_21 : tslice prog 21 = none := by kernel_rfl
@[simp] theorem tkind_21 : tkind prog 21 = some 2 := by kernel_rfl
@[simp] theorem tint_21 : tint prog 21 = some IntKind.i32 := by kernel_rfl
@[simp] theorem tbytes_21 : tbytes prog 21 = some 4 := by kernel_rfl
@[simp] theorem tplaces_21 : tplaces prog 21 = none := by kernel_rfl
@[simp] theorem tzero_21 : tzero prog 21 = some (Value.int IntKind.i32 0) := by kernel_rfl
@[simp] theorem tptr_21 : tptr prog 21 = false := by kernel_rfl
@[simp] theorem tflat_21 : tflat prog 21 = none := by kernel_rfl
@[simp] theorem tsz_25 : tsz prog 25 = some 1 := by kernel_rfl
@[simp] theorem tagg_25 : tagg prog 25 = some false := by kernel_rfl
@[simp] theorem tcells_25 : tcells prog 25 = [25] := by kernel_rfl
@[simp] theorem tslice_25 : tslice prog 25 = some 30 := by kernel_rfl
@[simp] theorem tkind_25 : tkind prog 25 = some 3 := by kernel_rfl
@[simp] theorem tint_25 : tint prog 25 = none := by kernel_rfl
@[simp] theorem tbytes_25 : tbytes prog 25 = some 24 := by kernel_rfl
@[simp] theorem tplaces_25 : tplaces prog 25 = none := by kernel_rfl
@[simp] theorem tzero_25 : tzero prog 25 = some (Value.slice none 0 0) := by kernel_rfl
@[simp] theorem tptr_25 : tptr prog 25 = false := by kernel_rfl
@[simp] theorem tflat_25 : tflat prog 25 = none := by kernel_rfl
@[simp] theorem tsz_26 : tsz prog 26 = some 1 := by kernel_rfl
@[simp] theorem tagg_26 : tagg prog 26 = some false := by kernel_rfl
@[simp] theorem tcells_26 : tcells prog 26 = [26] := by kernel_rfl
@[simp] theorem tslice_26 : tslice prog 26 = some 65 := by kernel_rfl
@[simp] theorem tkind_26 : tkind prog 26 = some 3 := by kernel_rfl
@[simp] theorem tint_26 : tint prog 26 = none := by kernel_rfl
@[simp] theorem tbytes_26 : tbytes prog 26 = some 24 := by kernel_rfl
@[simp] theorem tplaces_26 : tplaces prog 26 = none := by kernel_rfl
@[simp] theorem tzero_26 : tzero prog 26 = some (Value.slice none 0 0) := by kernel_rfl
@[simp] theorem tptr_26 : tptr prog 26 = false := by kernel_rfl
@[simp] theorem tflat_26 : tflat prog 26 = none := by kernel_rfl
@[simp] theorem tsz_27 : tsz prog 27 = some 1 := by kernel_rfl
@[simp] theorem tagg_27 : tagg prog 27 = some false := by kernel_rfl
@[simp] theorem tcells_27 : tcells prog 27 = [27] := by kernel_rfl
@[simp] theorem tslice_27 : tslice prog 27 = none := by kernel_rfl
@[simp] theorem tkind_27 : tkind prog 27 = some 4 := by kernel_rfl
@[simp] theorem tint_27 : tint prog 27 = none := by kernel_rfl
@[simp] theorem tbytes_27 : tbytes prog 27 = some 0 := by kernel_rfl
@[simp] theorem tplaces_27 : tplaces prog 27 = none := by kernel_rfl
@[simp] theorem tzero_27 : tzero prog 27 = some (Value.tuple #[Value.slice none 0 0, Value.slice none 0 0, Value.int IntKind.i64 0]) := by kernel_rfl
@[simp] theorem tptr_27 : tptr prog 27 = false := by kernel_rfl
@[simp] theorem tflat_27 : tflat prog 27 = none := by kernel_rfl
@[simp] theorem tsz_30 : tsz prog 30 = some 5 := by kernel_rfl
@[simp] theorem tagg_30 : tagg prog 30 = some true := by kernel_rfl
@[simp] theorem tcells_30 : tcells prog 30 = [3, 9, 3, 3, 4] := by kernel_rfl
@[simp] theorem tslice_30 : tslice prog 30 = none := by kernel_rfl
@[simp] theorem tkind_30 : tkind prog 30 = some 4 := by kernel_rfl
@[simp] theorem tint_30 : tint prog 30 = none := by kernel_rfl
@[simp] theorem tbytes_30 : tbytes prog 30 = some 48 := by kernel_rfl
@[simp] theorem tplaces_30 : tplaces prog 30 = some [(0, 1), (1, 1), (2, 1), (3, 1), (4, 1)] := by kernel_rfl
@[simp] theorem tzero_30 : tzero prog 30 = some (Value.agg #[Value.int IntKind.i64 0, Value.string ⟨#[]⟩, Value.int IntKind.i64 0, Value.int IntKind.i64 0, Value.bool false]) := by kernel_rfl
@[simp] theorem tptr_30 : tptr prog 30 = false := by kernel_rfl
@[simp] theorem tflat_30 : tflat prog 30 = some [2, 0, 2, 2, 1] := by kernel_rfl
@[simp] theorem tfield_30_0 : tfield prog 30 0 = some (0, 1, false) := by kernel_rfl
@[simp] theorem tfield_30_1 : tfield prog 30 1 = some (1, 1, false) := by kernel_rfl
@[simp] theorem tfield_30_2 : tfield prog 30 2 = some (2, 1, false) := by kernel_rfl
@[simp] theorem tfield_30_3 : tfield prog 30 3 = some (3, 1, false) := by kernel_rfl
@[simp] theorem tfield_30_4 : tfield prog 30 4 = some (4, 1, false) := by kernel_rfl
@[simp] theorem tsz_33 : tsz prog 33 = some 1 := by kernel_rfl
@[simp] theorem tagg_33 : tagg prog 33 = some false := by kernel_rfl
@[simp] theorem tcells_33 : tcells prog 33 = [33] := by kernel_rfl
@[simp] theorem tslice_33 : tslice prog 33 = some 35 := by kernel_rfl
@[simp] theorem tkind_33 : tkind prog 33 = some 3 := by kernel_rfl
@[simp] theorem tint_33 : tint prog 33 = none := by kernel_rfl
@[simp] theorem tbytes_33 : tbytes prog 33 = some 24 := by kernel_rfl
@[simp] theorem tplaces_33 : tplaces prog 33 = none := by kernel_rfl
@[simp] theorem tzero_33 : tzero prog 33 = some (Value.slice none 0 0) := by kernel_rfl
@[simp] theorem tptr_33 : tptr prog 33 = false := by kernel_rfl
@[simp] theorem tflat_33 : tflat prog 33 = none := by kernel_rfl
@[simp] theorem tsz_35 : tsz prog 35 = some 3 := by kernel_rfl
@[simp] theorem tagg_35 : tagg prog 35 = some true := by kernel_rfl
@[simp] theorem tcells_35 : tcells prog 35 = [3, 3, 33] := by kernel_rfl
@[simp] theorem tslice_35 : tslice prog 35 = none := by kernel_rfl
@[simp] theorem tkind_35 : tkind prog 35 = some 4 := by kernel_rfl
@[simp] theorem tint_35 : tint prog 35 = none := by kernel_rfl
@[simp] theorem tbytes_35 : tbytes prog 35 = some 40 := by kernel_rfl
@[simp] theorem tplaces_35 : tplaces prog 35 = some [(0, 1), (1, 1), (2, 1)] := by kernel_rfl
@[simp] theorem tzero_35 : tzero prog 35 = some (Value.agg #[Value.int IntKind.i64 0, Value.int IntKind.i64 0, Value.slice none 0 0]) := by kernel_rfl
@[simp] theorem tptr_35 : tptr prog 35 = false := by kernel_rfl
@[simp] theorem tflat_35 : tflat prog 35 = some [2, 2, 3] := by kernel_rfl
@[simp] theorem tfield_35_0 : tfield prog 35 0 = some (0, 1, false) := by kernel_rfl
@[simp] theorem tfield_35_1 : tfield prog 35 1 = some (1, 1, false) := by kernel_rfl
@[simp] theorem tfield_35_2 : tfield prog 35 2 = some (2, 1, false) := by kernel_rfl
@[simp] theorem tsz_36 : tsz prog 36 = some 1 := by kernel_rfl
@[simp] theorem tagg_36 : tagg prog 36 = some false := by kernel_rfl
@[simp] theorem tcells_36 : tcells prog 36 = [36] := by kernel_rfl
@[simp] theorem tslice_36 : tslice prog 36 = none := by kernel_rfl
@[simp] theorem tkind_36 : tkind prog 36 = some 4 := by kernel_rfl
@[simp] theorem tint_36 : tint prog 36 = none := by kernel_rfl
@[simp] theorem tbytes_36 : tbytes prog 36 = some 0 := by kernel_rfl
@[simp] theorem tplaces_36 : tplaces prog 36 = none := by kernel_rfl
@[simp] theorem tzero_36 : tzero prog 36 = some (Value.tuple #[Value.agg #[Value.int IntKind.i64 0, Value.int IntKind.i64 0, Value.slice none 0 0], Value.slice none 0 0, Value.int IntKind.i64 0]) := by kernel_rfl
@[simp] theorem tptr_36 : tptr prog 36 = false := by kernel_rfl
@[simp] theorem tflat_36 : tflat prog 36 = none := by kernel_rfl
@[simp] theorem tsz_40 : tsz prog 40 = some 1 := by kernel_rfl
@[simp] theorem tagg_40 : tagg prog 40 = some false := by kernel_rfl
@[simp] theorem tcells_40 : tcells prog 40 = [40] := by kernel_rfl
@[simp] theorem tslice_40 : tslice prog 40 = none := by kernel_rfl
@[simp] theorem tkind_40 : tkind prog 40 = some 5 := by kernel_rfl
@[simp] theorem tint_40 : tint prog 40 = none := by kernel_rfl
@[simp] theorem tbytes_40 : tbytes prog 40 = some 8 := by kernel_rfl
@[simp] theorem tplaces_40 : tplaces prog 40 = none := by kernel_rfl
@[simp] theorem tzero_40 : tzero prog 40 = some (Value.pointer none) := by kernel_rfl
@[simp] theorem tptr_40 : tptr prog 40 = false := by kernel_rfl
@[simp] theorem tflat_40 : tflat prog 40 = none := by kernel_rfl
@[simp] theorem tsz_42 : tsz prog 42 = some 5 := by kernel_rfl
@[simp] theorem tagg_42 : tagg prog 42 = some true := by kernel_rfl
@[simp] theorem tcells_42 : tcells prog 42 = [9, 3, 3, 25, 26] := by kernel_rfl
@[simp] theorem tslice_42 : tslice prog 42 = none := by kernel_rfl
@[simp] theorem tkind_42 : tkind prog 42 = some 4 := by kernel_rfl
@[simp] theorem tint_42 : tint prog 42 = none := by kernel_rfl
@[simp] theorem tbytes_42 : tbytes prog 42 = some 80 := by kernel_rfl
@[simp] theorem tplaces_42 : tplaces prog 42 = some [(0, 1), (1, 1), (2, 1), (3, 1), (4, 1)] := by kernel_rfl
@[simp] theorem tzero_42 : tzero prog 42 = some (Value.agg #[Value.string ⟨#[]⟩, Value.int IntKind.i64 0, Value.int IntKind.i64 0, Value.slice none 0 0, Value.slice none 0 0]) := by kernel_rfl
@[simp] theorem tptr_42 : tptr prog 42 = true := by kernel_rfl
@[simp] theorem tflat_42 : tflat prog 42 = some [0, 2, 2, 3, 3] := by kernel_rfl
@[simp] theorem tfield_42_0 : tfield prog 42 0 = some (0, 1, false) := by kernel_rfl
@[simp] theorem tfield_42_1 : tfield prog 42 1 = some (1, 1, false) := by kernel_rfl
@[simp] theorem tfield_42_2 : tfield prog 42 2 = some (2, 1, false) := by kernel_rfl
@[simp] theorem tfield_42_3 : tfield prog 42 3 = some (3, 1, false) := by kernel_rfl
@[simp] theorem tfield_42_4 : tfield prog 42 4 = some (4, 1, false) := by kernel_rfl
@[simp] theorem tsz_44 : tsz prog 44 = some 1 := by kernel_rfl
@[simp] theorem tagg_44 : tagg prog 44 = some false := by kernel_rfl
@[simp] theorem tcells_44 : tcells prog 44 = [44] := by kernel_rfl
@[simp] theorem tslice_44 : tslice prog 44 = none := by kernel_rfl
@[simp] theorem tkind_44 : tkind prog 44 = some 4 := by kernel_rfl
@[simp] theorem tint_44 : tint prog 44 = none := by kernel_rfl
@[simp] theorem tbytes_44 : tbytes prog 44 = some 0 := by kernel_rfl
@[simp] theorem tplaces_44 : tplaces prog 44 = none := by kernel_rfl
@[simp] theorem tzero_44 : tzero prog 44 = some (Value.tuple #[Value.agg #[Value.int IntKind.i64 0, Value.int IntKind.i64 0, Value.slice none 0 0], Value.int IntKind.i64 0]) := by kernel_rfl
@[simp] theorem tptr_44 : tptr prog 44 = false := by kernel_rfl
@[simp] theorem tflat_44 : tflat prog 44 = none := by kernel_rfl
@[simp] theorem tsz_46 : tsz prog 46 = some 1 := by kernel_rfl
@[simp] theorem tagg_46 : tagg prog 46 = some false := by kernel_rfl
@[simp] theorem tcells_46 : tcells prog 46 = [46] := by kernel_rfl
@[simp] theorem tslice_46 : tslice prog 46 = none := by kernel_rfl
@[simp] theorem tkind_46 : tkind prog 46 = some 4 := by kernel_rfl
@[simp] theorem tint_46 : tint prog 46 = none := by kernel_rfl
@[simp] theorem tbytes_46 : tbytes prog 46 = some 0 := by kernel_rfl
@[simp] theorem tplaces_46 : tplaces prog 46 = none := by kernel_rfl
@[simp] theorem tzero_46 : tzero prog 46 = some (Value.tuple #[Value.int IntKind.i64 0, Value.bool false]) := by kernel_rfl
@[simp] theorem tptr_46 : tptr prog 46 = false := by kernel_rfl
@[simp] theorem tflat_46 : tflat prog 46 = none := by kernel_rfl
@[simp] theorem tsz_49 : tsz prog 49 = some 1 := by kernel_rfl
@[simp] theorem tagg_49 : tagg prog 49 = some false := by kernel_rfl
@[simp] theorem tcells_49 : tcells prog 49 = [49] := by kernel_rfl
@[simp] theorem tslice_49 : tslice prog 49 = none := by kernel_rfl
@[simp] theorem tkind_49 : tkind prog 49 = some 4 := by kernel_rfl
@[simp] theorem tint_49 : tint prog 49 = none := by kernel_rfl
@[simp] theorem tbytes_49 : tbytes prog 49 = some 8 := by kernel_rfl
@[simp] theorem tplaces_49 : tplaces prog 49 = none := by kernel_rfl
@[simp] theorem tzero_49 : tzero prog 49 = some Value.nilFunc := by kernel_rfl
@[simp] theorem tptr_49 : tptr prog 49 = false := by kernel_rfl
@[simp] theorem tflat_49 : tflat prog 49 = none := by kernel_rfl
@[simp] theorem tsz_52 : tsz prog 52 = some 1 := by kernel_rfl
@[simp] theorem tagg_52 : tagg prog 52 = some false := by kernel_rfl
@[simp] theorem tcells_52 : tcells prog 52 = [52] := by kernel_rfl
@[simp] theorem tslice_52 : tslice prog 52 = none := by kernel_rfl
@[simp] theorem tkind_52 : tkind prog 52 = some 5 := by kernel_rfl
@[simp] theorem tint_52 : tint prog 52 = none := by kernel_rfl
@[simp] theorem tbytes_52 : tbytes prog 52 = some 8 := by kernel_rfl
@[simp] theorem tplaces_52 : tplaces prog 52 = none := by kernel_rfl
@[simp] theorem tzero_52 : tzero prog 52 = some (Value.pointer none) := by kernel_rfl
@[simp] theorem tptr_52 : tptr prog 52 = false := by kernel_rfl
@[simp] theorem tflat_52 : tflat prog 52 = none := by kernel_rfl
@[simp] theorem tsz_54 : tsz prog 54 = some 6 := by kernel_rfl
@[simp] theorem tagg_54 : tagg prog 54 = some true := by kernel_rfl
@[simp] theorem tcells_54 : tcells prog 54 = [9, 3, 3, 25, 26, 3] := by kernel_rfl
@[simp] theorem tslice_54 : tslice prog 54 = none := by kernel_rfl
@[simp] theorem tkind_54 : tkind prog 54 = some 4 := by kernel_rfl
@[simp] theorem tint_54 : tint prog 54 = none := by kernel_rfl
@[simp] theorem tbytes_54 : tbytes prog 54 = some 88 := by kernel_rfl
@[simp] theorem tplaces_54 : tplaces prog 54 = some [(0, 1), (1, 1), (2, 1), (3, 1), (4, 1), (5, 1)] := by kernel_rfl
@[simp] theorem tzero_54 : tzero prog 54 = some (Value.agg #[Value.string ⟨#[]⟩, Value.int IntKind.i64 0, Value.int IntKind.i64 0, Value.slice none 0 0, Value.slice none 0 0, Value.int IntKind.i64 0]) := by kernel_rfl
@[simp] theorem tptr_54 : tptr prog 54 = true := by kernel_rfl
@[simp] theorem tflat_54 : tflat prog 54 = some [0, 2, 2, 3, 3, 2] := by kernel_rfl
@[simp] theorem tfield_54_0 : tfield prog 54 0 = some (0, 1, false) := by kernel_rfl
@[simp] theorem tfield_54_1 : tfield prog 54 1 = some (1, 1, false) := by kernel_rfl
@[simp] theorem tfield_54_2 : tfield prog 54 2 = some (2, 1, false) := by kernel_rfl
@[simp] theorem tfield_54_3 : tfield prog 54 3 = some (3, 1, false) := by kernel_rfl
@[simp] theorem tfield_54_4 : tfield prog 54 4 = some (4, 1, false) := by kernel_rfl
@[simp] theorem tfield_54_5 : tfield prog 54 5 = some (5, 1, false) := by kernel_rfl
@[simp] theorem tsz_57 : tsz prog 57 = some 1 := by kernel_rfl
@[simp] theorem tagg_57 : tagg prog 57 = some false := by kernel_rfl
@[simp] theorem tcells_57 : tcells prog 57 = [57] := by kernel_rfl
@[simp] theorem tslice_57 : tslice prog 57 = none := by kernel_rfl
@[simp] theorem tkind_57 : tkind prog 57 = some 5 := by kernel_rfl
@[simp] theorem tint_57 : tint prog 57 = none := by kernel_rfl
@[simp] theorem tbytes_57 : tbytes prog 57 = some 8 := by kernel_rfl
@[simp] theorem tplaces_57 : tplaces prog 57 = none := by kernel_rfl
@[simp] theorem tzero_57 : tzero prog 57 = some (Value.pointer none) := by kernel_rfl
@[simp] theorem tptr_57 : tptr prog 57 = false := by kernel_rfl
@[simp] theorem tflat_57 : tflat prog 57 = none := by kernel_rfl
@[simp] theorem tsz_59 : tsz prog 59 = some 4 := by kernel_rfl
@[simp] theorem tagg_59 : tagg prog 59 = some true := by kernel_rfl
@[simp] theorem tcells_59 : tcells prog 59 = [25, 3, 3, 3] := by kernel_rfl
@[simp] theorem tslice_59 : tslice prog 59 = none := by kernel_rfl
@[simp] theorem tkind_59 : tkind prog 59 = some 4 := by kernel_rfl
@[simp] theorem tint_59 : tint prog 59 = none := by kernel_rfl
@[simp] theorem tbytes_59 : tbytes prog 59 = some 48 := by kernel_rfl
@[simp] theorem tplaces_59 : tplaces prog 59 = some [(0, 1), (1, 1), (2, 1), (3, 1)] := by kernel_rfl
@[simp] theorem tzero_59 : tzero prog 59 = some (Value.agg #[Value.slice none 0 0, Value.int IntKind.i64 0, Value.int IntKind.i64 0, Value.int IntKind.i64 0]) := by kernel_rfl
@[simp] theorem tptr_59 : tptr prog 59 = true := by kernel_rfl
@[simp] theorem tflat_59 : tflat prog 59 = some [3, 2, 2, 2] := by kernel_rfl
@[simp] theorem tfield_59_0 : tfield prog 59 0 = some (0, 1, false) := by kernel_rfl
@[simp] theorem tfield_59_1 : tfield prog 59 1 = some (1, 1, false) := by kernel_rfl
@[simp] theorem tfield_59_2 : tfield prog 59 2 = some (2, 1, false) := by kernel_rfl
@[simp] theorem tfield_59_3 : tfield prog 59 3 = some (3, 1, false) := by kernel_rfl
@[simp] theorem tsz_61 : tsz prog 61 = some 1 := by kernel_rfl
@[simp] theorem tagg_61 : tagg prog 61 = some false := by kernel_rfl
@[simp] theorem tcells_61 : tcells prog 61 = [61] := by kernel_rfl
@[simp] theorem tslice_61 : tslice prog 61 = none := by kernel_rfl
@[simp] theorem tkind_61 : tkind prog 61 = some 5 := by kernel_rfl
@[simp] theorem tint_61 : tint prog 61 = none := by kernel_rfl
@[simp] theorem tbytes_61 : tbytes prog 61 = some 8 := by kernel_rfl
@[simp] theorem tplaces_61 : tplaces prog 61 = none := by kernel_rfl
@[simp] theorem tzero_61 : tzero prog 61 = some (Value.pointer none) := by kernel_rfl
@[simp] theorem tptr_61 : tptr prog 61 = false := by kernel_rfl
@[simp] theorem tflat_61 : tflat prog 61 = none := by kernel_rfl
@[simp] theorem tsz_63 : tsz prog 63 = some 4 := by kernel_rfl
@[simp] theorem tagg_63 : tagg prog 63 = some true := by kernel_rfl
@[simp] theorem tcells_63 : tcells prog 63 = [25, 3, 3, 3] := by kernel_rfl
@[simp] theorem tslice_63 : tslice prog 63 = none := by kernel_rfl
@[simp] theorem tkind_63 : tkind prog 63 = some 4 := by kernel_rfl
@[simp] theorem tint_63 : tint prog 63 = none := by kernel_rfl
@[simp] theorem tbytes_63 : tbytes prog 63 = some 48 := by kernel_rfl
@[simp] theorem tplaces_63 : tplaces prog 63 = some [(0, 1), (1, 1), (2, 1), (3, 1)] := by kernel_rfl
@[simp] theorem tzero_63 : tzero prog 63 = some (Value.agg #[Value.slice none 0 0, Value.int IntKind.i64 0, Value.int IntKind.i64 0, Value.int IntKind.i64 0]) := by kernel_rfl
@[simp] theorem tptr_63 : tptr prog 63 = true := by kernel_rfl
@[simp] theorem tflat_63 : tflat prog 63 = some [3, 2, 2, 2] := by kernel_rfl
@[simp] theorem tfield_63_0 : tfield prog 63 0 = some (0, 1, false) := by kernel_rfl
@[simp] theorem tfield_63_1 : tfield prog 63 1 = some (1, 1, false) := by kernel_rfl
@[simp] theorem tfield_63_2 : tfield prog 63 2 = some (2, 1, false) := by kernel_rfl
@[simp] theorem tfield_63_3 : tfield prog 63 3 = some (3, 1, false) := by kernel_rfl
@[simp] theorem tsz_65 : tsz prog 65 = some 4 := by kernel_rfl
@[simp] theorem tagg_65 : tagg prog 65 = some true := by kernel_rfl
@[simp] theorem tcells_65 : tcells prog 65 = [9, 3, 3, 3] := by kernel_rfl
@[simp] theorem tslice_65 : tslice prog 65 = none := by kernel_rfl
@[simp] theorem tkind_65 : tkind prog 65 = some 4 := by kernel_rfl
@[simp] theorem tint_65 : tint prog 65 = none := by kernel_rfl
@[simp] theorem tbytes_65 : tbytes prog 65 = some 40 := by kernel_rfl
@[simp] theorem tplaces_65 : tplaces prog 65 = some [(0, 1), (1, 1), (2, 1), (3, 1)] := by kernel_rfl
@[simp] theorem tzero_65 : tzero prog 65 = some (Value.agg #[Value.string ⟨#[]⟩, Value.int IntKind.i64 0, Value.int IntKind.i64 0, Value.int IntKind.i64 0]) := by kernel_rfl
@[simp] theorem tptr_65 : tptr prog 65 = false := by kernel_rfl
@[simp] theorem tflat_65 : tflat prog 65 = some [0, 2, 2, 2] := by kernel_rfl
@[simp] theorem tfield_65_0 : tfield prog 65 0 = some (0, 1, false) := by kernel_rfl
@[simp] theorem tfield_65_1 : tfield prog 65 1 = some (1, 1, false) := by kernel_rfl
@[simp] theorem tfield_65_2 : tfield prog 65 2 = some (2, 1, false) := by kernel_rfl
@[simp] theorem tfield_65_3 : tfield prog 65 3 = some (3, 1, false) := by kernel_rfl
@[simp] theorem tsz_67 : tsz prog 67 = some 1 := by kernel_rfl
@[simp] theorem tagg_67 : tagg prog 67 = some false := by kernel_rfl
@[simp] theorem tcells_67 : tcells prog 67 = [67] := by kernel_rfl
@[simp] theorem tslice_67 : tslice prog 67 = some 9 := by kernel_rfl
@[simp] theorem tkind_67 : tkind prog 67 = some 3 := by kernel_rfl
@[simp] theorem tint_67 : tint prog 67 = none := by kernel_rfl
@[simp] theorem tbytes_67 : tbytes prog 67 = some 24 := by kernel_rfl
@[simp] theorem tplaces_67 : tplaces prog 67 = none := by kernel_rfl
@[simp] theorem tzero_67 : tzero prog 67 = some (Value.slice none 0 0) := by kernel_rfl
@[simp] theorem tptr_67 : tptr prog 67 = false := by kernel_rfl
@[simp] theorem tflat_67 : tflat prog 67 = none := by kernel_rfl
@[simp] theorem tsz_72 : tsz prog 72 = some 1 := by kernel_rfl
@[simp] theorem tagg_72 : tagg prog 72 = some false := by kernel_rfl
@[simp] theorem tcells_72 : tcells prog 72 = [72] := by kernel_rfl
@[simp] theorem tslice_72 : tslice prog 72 = none := by kernel_rfl
@[simp] theorem tkind_72 : tkind prog 72 = some 4 := by kernel_rfl
@[simp] theorem tint_72 : tint prog 72 = none := by kernel_rfl
@[simp] theorem tbytes_72 : tbytes prog 72 = some 0 := by kernel_rfl
@[simp] theorem tplaces_72 : tplaces prog 72 = none := by kernel_rfl
@[simp] theorem tzero_72 : tzero prog 72 = some (Value.tuple #[Value.int IntKind.i32 0, Value.int IntKind.i64 0]) := by kernel_rfl
@[simp] theorem tptr_72 : tptr prog 72 = false := by kernel_rfl
@[simp] theorem tflat_72 : tflat prog 72 = none := by kernel_rfl
@[simp] theorem tsz_79 : tsz prog 79 = some 1 := by kernel_rfl
@[simp] theorem tagg_79 : tagg prog 79 = some false := by kernel_rfl
@[simp] theorem tcells_79 : tcells prog 79 = [79] := by kernel_rfl
@[simp] theorem tslice_79 : tslice prog 79 = none := by kernel_rfl
@[simp] theorem tkind_79 : tkind prog 79 = some 4 := by kernel_rfl
@[simp] theorem tint_79 : tint prog 79 = none := by kernel_rfl
@[simp] theorem tbytes_79 : tbytes prog 79 = some 0 := by kernel_rfl
@[simp] theorem tplaces_79 : tplaces prog 79 = none := by kernel_rfl
@[simp] theorem tzero_79 : tzero prog 79 = some (Value.tuple #[Value.string ⟨#[]⟩, Value.string ⟨#[]⟩, Value.bool false]) := by kernel_rfl
@[simp] theorem tptr_79 : tptr prog 79 = false := by kernel_rfl
@[simp] theorem tflat_79 : tflat prog 79 = none := by kernel_rfl
@[simp] theorem tsz_85 : tsz prog 85 = some 256 := by kernel_rfl
@[simp] theorem tagg_85 : tagg prog 85 = some true := by kernel_rfl
@[simp] theorem tcells_85 : tcells prog 85 = [85] := by kernel_rfl
@[simp] theorem tslice_85 : tslice prog 85 = none := by kernel_rfl
@[simp] theorem tkind_85 : tkind prog 85 = some 4 := by kernel_rfl
@[simp] theorem tint_85 : tint prog 85 = none := by kernel_rfl
@[simp] theorem tbytes_85 : tbytes prog 85 = some 256 := by kernel_rfl
@[simp] theorem tplaces_85 : tplaces prog 85 = none := by kernel_rfl
@[simp] theorem tzero_85 : tzero prog 85 = some (Value.agg #[Value.int IntKind.u8 0, Value.int IntKind.u8 0, Value.int IntKind.u8 0, Value.int IntKind.u8 0, Value.int IntKind.u8 0, Value.int IntKind.u8 0, Value.int IntKind.u8 0, Value.int IntKind.u8 0, Value.int IntKind.u8 0, Value.int IntKind.u8 0, Value.int IntKind.u8 0, Value.int IntKind.u8 0, Value.int IntKind.u8 0, Value.int IntKind.u8 0, Value.int IntKind.u8 0, Value.int IntKind.u8 0, Value.int IntKind.u8 0, Value.int IntKind.u8 0, Value.int IntKind.u8 0, Value.int IntKind.u8 0, Value.int IntKind.u8 0, Value.int IntKind.u8 0, Value.int IntKind.u8 0, Value.int IntKind.u8 0, Value.int IntKind.u8 0, Value.int IntKind.u8 0, Value.int IntKind.u8 0, Value.int IntKind.u8 0, Value.int IntKind.u8 0, Value.int IntKind.u8 0, Value.int IntKind.u8 0, Value.int IntKind.u8 0, Value.int IntKind.u8 0, Value.int IntKind.u8 0, Value.int IntKind.u8 0, Value.int IntKind.u8 0, Value.int IntKind.u8 0, Value.int IntKind.u8 0, Value.int IntKind.u8 0, Value.int IntKind.u8 0, Value.int IntKind.u8 0, Value.int IntKind.u8 0, Value.int IntKind.u8 0, Value.int IntKind.u8 0, Value.int IntKind.u8 0, Value.int IntKind.u8 0, Value.int IntKind.u8 0, Value.int IntKind.u8 0, Value.int IntKind.u8 0, Value.int IntKind.u8 0, Value.int IntKind.u8 0, Value.int IntKind.u8 0, Value.int IntKind.u8 0, Value.int IntKind.u8 0, Value.int IntKind.u8 0, Value.int IntKind.u8 0, Value.int IntKind.u8 0, Value.int IntKind.u8 0, Value.int IntKind.u8 0, Value.int IntKind.u8 0, Value.int IntKind.u8 0, Value.int IntKind.u8 0, Value.int IntKind.u8 0, Value.int IntKind.u8 0, Value.int IntKind.u8 0, Value.int IntKind.u8 0, Value.int IntKind.u8 0, Value.int IntKind.u8 0, Value.int IntKind.u8 0, Value.int IntKind.u8 0, Value.int IntKind.u8 0, Value.int IntKind.u8 0, Value.int IntKind.u8 0, Value.int IntKind.u8 0, Value.int IntKind.u8 0, Value.int IntKind.u8 0, Value.int IntKind.u8 0, Value.int IntKind.u8 0, Value.int IntKind.u8 0, Value.int IntKind.u8 0, Value.int IntKind.u8 0, Value.int IntKind.u8 0, Value.int IntKind.u8 0, Value.int IntKind.u8 0, Value.int IntKind.u8 0, Value.int IntKind.u8 0, Value.int IntKind.u8 0, Value.int IntKind.u8 0, Value.int IntKind.u8 0, Value.int IntKind.u8 0, Value.int IntKind.u8 0, Value.int IntKind.u8 0, Value.int IntKind.u8 0, Value.int IntKind.u8 0, Value.int IntKind.u8 0, Value.int IntKind.u8 0, Value.int IntKind.u8 0, Value.int IntKind.u8 0, Value.int IntKind.u8 0, Value.int IntKind.u8 0, Value.int IntKind.u8 0, Value.int IntKind.u8 0, Value.int IntKind.u8 0, Value.int IntKind.u8 0, Value.int IntKind.u8 0, Value.int IntKind.u8 0, Value.int IntKind.u8 0, Value.int IntKind.u8 0, Value.int IntKind.u8 0, Value.int IntKind.u8 0, Value.int IntKind.u8 0, Value.int IntKind.u8 0, Value.int IntKind.u8 0, Value.int IntKind.u8 0, Value.int IntKind.u8 0, Value.int IntKind.u8 0, Value.int IntKind.u8 0, Value.int IntKind.u8 0, Value.int IntKind.u8 0, Value.int IntKind.u8 0, Value.int IntKind.u8 0, Value.int IntKind.u8 0, Value.int IntKind.u8 0, Value.int IntKind.u8 0, Value.int IntKind.u8 0, Value.int IntKind.u8 0, Value.int IntKind.u8 0, Value.int IntKind.u8 0, Value.int IntKind.u8 0, Value.int IntKind.u8 0, Value.int IntKind.u8 0, Value.int IntKind.u8 0, Value.int IntKind.u8 0, Value.int IntKind.u8 0, Value.int IntKind.u8 0, Value.int IntKind.u8 0, Value.int IntKind.u8 0, Value.int IntKind.u8 0, Value.int IntKind.u8 0, Value.int IntKind.u8 0, Value.int IntKind.u8 0, Value.int IntKind.u8 0, Value.int IntKind.u8 0, Value.int IntKind.u8 0, Value.int IntKind.u8 0, Value.int IntKind.u8 0, Value.int IntKind.u8 0, Value.int IntKind.u8 0, Value.int IntKind.u8 0, Value.int IntKind.u8 0, Value.int IntKind.u8 0, Value.int IntKind.u8 0, Value.int IntKind.u8 0, Value.int IntKind.u8 0, Value.int IntKind.u8 0, Value.int IntKind.u8 0, Value.int IntKind.u8 0, Value.int IntKind.u8 0, Value.int IntKind.u8 0, Value.int IntKind.u8 0, Value.int IntKind.u8 0, Value.int IntKind.u8 0, Value.int IntKind.u8 0, Value.int IntKind.u8 0, Value.int IntKind.u8 0, Value.int IntKind.u8 0, Value.int IntKind.u8 0, Value.int IntKind.u8 0, Value.int IntKind.u8 0, Value.int IntKind.u8 0, Value.int IntKind.u8 0, Value.int IntKind.u8 0, Value.int IntKind.u8 0, Value.int IntKind.u8 0, Value.int IntKind.u8 0, Value.int IntKind.u8 0, Value.int IntKind.u8 0, Value.int IntKind.u8 0, Value.int IntKind.u8 0, Value.int IntKind.u8 0, Value.int IntKind.u8 0, Value.int IntKind.u8 0, Value.int IntKind.u8 0, Value.int IntKind.u8 0, Value.int IntKind.u8 0, Value.int IntKind.u8 0, Value.int IntKind.u8 0, Value.int IntKind.u8 0, Value.int IntKind.u8 0, Value.int IntKind.u8 0, Value.int IntKind.u8 0, Value.int IntKind.u8 0, Value.int IntKind.u8 0, Value.int IntKind.u8 0, Value.int IntKind.u8 0, Value.int IntKind.u8 0, Value.int IntKind.u8 0, Value.int IntKind.u8 0, Value.int IntKind.u8 0, Value.int IntKind.u8 0, Value.int IntKind.u8 0, Value.int IntKind.u8 0, Value.int IntKind.u8 0, Value.int IntKind.u8 0, Value.int IntKind.u8 0, Value.int IntKind.u8 0, Value.int IntKind.u8 0, Value.int IntKind.u8 0, Value.int IntKind.u8 0, Value.int IntKind.u8 0, Value.int IntKind.u8 0, Value.int IntKind.u8 0, Value.int IntKind.u8 0, Value.int IntKind.u8 0, Value.int IntKind.u8 0, Value.int IntKind.u8 0, Value.int IntKind.u8 0, Value.int IntKind.u8 0, Value.int IntKind.u8 0, Value.int IntKind.u8 0, Value.int IntKind.u8 0, Value.int IntKind.u8 0, Value.int IntKind.u8 0, Value.int IntKind.u8 0, Value.int IntKind.u8 0, Value.int IntKind.u8 0, Value.int IntKind.u8 0, Value.int IntKind.u8 0, Value.int IntKind.u8 0, Value.int IntKind.u8 0, Value.int IntKind.u8 0, Value.int IntKind.u8 0, Value.int IntKind.u8 0, Value.int IntKind.u8 0, Value.int IntKind.u8 0, Value.int IntKind.u8 0, Value.int IntKind.u8 0, Value.int IntKind.u8 0, Value.int IntKind.u8 0, Value.int IntKind.u8 0, Value.int IntKind.u8 0, Value.int IntKind.u8 0, Value.int IntKind.u8 0, Value.int IntKind.u8 0, Value.int IntKind.u8 0, Value.int IntKind.u8 0, Value.int IntKind.u8 0, Value.int IntKind.u8 0, Value.int IntKind.u8 0, Value.int IntKind.u8 0, Value.int IntKind.u8 0, Value.int IntKind.u8 0, Value.int IntKind.u8 0, Value.int IntKind.u8 0, Value.int IntKind.u8 0, Value.int IntKind.u8 0]) := by kernel_rfl
@[simp] theorem tptr_85 : tptr prog 85 = false := by kernel_rfl
@[simp] theorem tflat_85 : tflat prog 85 = none := by kernel_rfl
@[simp] theorem tsz_86 : tsz prog 86 = some 1 := by kernel_rfl
@[simp] theorem tagg_86 : tagg prog 86 = some false := by kernel_rfl
@[simp] theorem tcells_86 : tcells prog 86 = [86] := by kernel_rfl
@[simp] theorem tslice_86 : tslice prog 86 = none := by kernel_rfl
@[simp] theorem tkind_86 : tkind prog 86 = some 2 := by kernel_rfl
@[simp] theorem tint_86 : tint prog 86 = some IntKind.u64 := by kernel_rfl
@[simp] theorem tbytes_86 : tbytes prog 86 = some 8 := by kernel_rfl
@[simp] theorem tplaces_86 : tplaces prog 86 = none := by kernel_rfl
@[simp] theorem tzero_86 : tzero prog 86 = some (Value.int IntKind.u64 0) := by kernel_rfl
@[simp] theorem tptr_86 : tptr prog 86 = false := by kernel_rfl
@[simp] theorem tflat_86 : tflat prog 86 = none := by kernel_rfl
@[simp] theorem tsz_88 : tsz prog 88 = some 2 := by kernel_rfl
@[simp] theorem tagg_88 : tagg prog 88 = some true := by kernel_rfl
@[simp] theorem tcells_88 : tcells prog 88 = [5, 5] := by kernel_rfl
@[simp] theorem tslice_88 : tslice prog 88 = none := by kernel_rfl
@[simp] theorem tkind_88 : tkind prog 88 = some 4 := by kernel_rfl
@[simp] theorem tint_88 : tint prog 88 = none := by kernel_rfl
@[simp] theorem tbytes_88 : tbytes prog 88 = some 2 := by kernel_rfl
@[simp] theorem tplaces_88 : tplaces prog 88 = some [(0, 1), (1, 1)] := by kernel_rfl
@[simp] theorem tzero_88 : tzero prog 88 = some (Value.agg #[Value.int IntKind.u8 0, Value.int IntKind.u8 0]) := by kernel_rfl
@[simp] theorem tptr_88 : tptr prog 88 = false := by kernel_rfl
@[simp] theorem tflat_88 : tflat prog 88 = some [2, 2] := by kernel_rfl
@[simp] theorem tfield_88_0 : tfield prog 88 0 = some (0, 1, false) := by kernel_rfl
@[simp] theorem tfield_88_1 : tfield prog 88 1 = some (1, 1, false) := by kernel_rfl
@[simp] theorem tsz_89 : tsz prog 89 = some 32 := by kernel_rfl
@[simp] theorem tagg_89 : tagg prog 89 = some true := by kernel_rfl
@[simp] theorem tcells_89 : tcells prog 89 = [89] := by kernel_rfl
@[simp] theorem tslice_89 : tslice prog 89 = none := by kernel_rfl
@[simp] theorem tkind_89 : tkind prog 89 = some 4 := by kernel_rfl
@[simp] theorem tint_89 : tint prog 89 = none := by kernel_rfl
@[simp] theorem tbytes_89 : tbytes prog 89 = some 32 := by kernel_rfl
@[simp] theorem tplaces_89 : tplaces prog 89 = none := by kernel_rfl
@[simp] theorem tzero_89 : tzero prog 89 = some (Value.agg #[Value.int IntKind.u8 0, Value.int IntKind.u8 0, Value.int IntKind.u8 0, Value.int IntKind.u8 0, Value.int IntKind.u8 0, Value.int IntKind.u8 0, Value.int IntKind.u8 0, Value.int IntKind.u8 0, Value.int IntKind.u8 0, Value.int IntKind.u8 0, Value.int IntKind.u8 0, Value.int IntKind.u8 0, Value.int IntKind.u8 0, Value.int IntKind.u8 0, Value.int IntKind.u8 0, Value.int IntKind.u8 0, Value.int IntKind.u8 0, Value.int IntKind.u8 0, Value.int IntKind.u8 0, Value.int IntKind.u8 0, Value.int IntKind.u8 0, Value.int IntKind.u8 0, Value.int IntKind.u8 0, Value.int IntKind.u8 0, Value.int IntKind.u8 0, Value.int IntKind.u8 0, Value.int IntKind.u8 0, Value.int IntKind.u8 0, Value.int IntKind.u8 0, Value.int IntKind.u8 0, Value.int IntKind.u8 0, Value.int IntKind.u8 0]) := by kernel_rfl
@[simp] theorem tptr_89 : tptr prog 89 = false := by kernel_rfl
@[simp] theorem tflat_89 : tflat prog 89 = none := by kernel_rfl
@[simp] theorem tsz_94 : tsz prog 94 = some 1 := by kernel_rfl
@[simp] theorem tagg_94 : tagg prog 94 = some false := by kernel_rfl
@[simp] theorem tcells_94 : tcells prog 94 = [94] := by kernel_rfl
@[simp] theorem tslice_94 : tslice prog 94 = some 67 := by kernel_rfl
@[simp] theorem tkind_94 : tkind prog 94 = some 3 := by kernel_rfl
@[simp] theorem tint_94 : tint prog 94 = none := by kernel_rfl
@[simp] theorem tbytes_94 : tbytes prog 94 = some 24 := by kernel_rfl
@[simp] theorem tplaces_94 : tplaces prog 94 = none := by kernel_rfl
@[simp] theorem tzero_94 : tzero prog 94 = some (Value.slice none 0 0) := by kernel_rfl
@[simp] theorem tptr_94 : tptr prog 94 = false := by kernel_rfl
@[simp] theorem tflat_94 : tflat prog 94 = none := by kernel_rfl
@[simp] theorem tsz_95 : tsz prog 95 = some 1 := by kernel_rfl
@[simp] theorem tagg_95 : tagg prog 95 = some false := by kernel_rfl
@[simp] theorem tcells_95 : tcells prog 95 = [95] := by kernel_rfl
@[simp] theorem tslice_95 : tslice prog 95 = none := by kernel_rfl
@[simp] theorem tkind_95 : tkind prog 95 = some 2 := by kernel_rfl
@[simp] theorem tint_95 : tint prog 95 = some IntKind.u32 := by kernel_rfl
@[simp] theorem tbytes_95 : tbytes prog 95 = some 4 := by kernel_rfl
@[simp] theorem tplaces_95 : tplaces prog 95 = none := by kernel_rfl
@[simp] theorem tzero_95 : tzero prog 95 = some (Value.int IntKind.u32 0) := by kernel_rfl
@[simp] theorem tptr_95 : tptr prog 95 = false := by kernel_rfl
@[simp] theorem tflat_95 : tflat prog 95 = none := by kernel_rfl
@[simp] theorem tsz_96 : tsz prog 96 = some 1 := by kernel_rfl
@[simp] theorem tagg_96 : tagg prog 96 = some false := by kernel_rfl
@[simp] theorem tcells_96 : tcells prog 96 = [96] := by kernel_rfl
@[simp] theorem tslice_96 : tslice prog 96 = none := by kernel_rfl
@[simp] theorem tkind_96 : tkind prog 96 = some 4 := by kernel_rfl
@[simp] theorem tint_96 : tint prog 96 = none := by kernel_rfl
@[simp] theorem tbytes_96 : tbytes prog 96 = some 0 := by kernel_rfl
@[simp] theorem tplaces_96 : tplaces prog 96 = none := by kernel_rfl
@[simp] theorem tzero_96 : tzero prog 96 = some (Value.tuple #[Value.int IntKind.u32 0, Value.int IntKind.u32 0]) := by kernel_rfl
@[simp] theorem tptr_96 : tptr prog 96 = false := by kernel_rfl
@[simp] theorem tflat_96 : tflat prog 96 = none := by kernel_rfl
@[simp] theorem tsz_97 : tsz prog 97 = some 1 := by kernel_rfl
@[simp] theorem tagg_97 : tagg prog 97 = some false := by kernel_rfl
@[simp] theorem tcells_97 : tcells prog 97 = [97] := by kernel_rfl
@[simp] theorem tslice_97 : tslice prog 97 = none := by kernel_rfl
@[simp] theorem tkind_97 : tkind prog 97 = some 4 := by kernel_rfl
@[simp] theorem tint_97 : tint prog 97 = none := by kernel_rfl
@[simp] theorem tbytes_97 : tbytes prog 97 = some 8 := by kernel_rfl
@[simp] theorem tplaces_97 : tplaces prog 97 = none := by kernel_rfl
@[simp] theorem tzero_97 : tzero prog 97 = some Value.nilFunc := by kernel_rfl
@[simp] theorem tptr_97 : tptr prog 97 = false := by kernel_rfl
@[simp] theorem tflat_97 : tflat prog 97 = none := by kernel_rfl
@[simp] theorem tsz_101 : tsz prog 101 = some 0 := by kernel_rfl
@[simp] theorem tagg_101 : tagg prog 101 = some true := by kernel_rfl
@[simp] theorem tcells_101 : tcells prog 101 = [101] := by kernel_rfl
@[simp] theorem tslice_101 : tslice prog 101 = none := by kernel_rfl
@[simp] theorem tkind_101 : tkind prog 101 = some 4 := by kernel_rfl
@[simp] theorem tint_101 : tint prog 101 = none := by kernel_rfl
@[simp] theorem tbytes_101 : tbytes prog 101 = some 0 := by kernel_rfl
@[simp] theorem tplaces_101 : tplaces prog 101 = none := by kernel_rfl
@[simp] theorem tzero_101 : tzero prog 101 = some (Value.agg #[]) := by kernel_rfl
@[simp] theorem tptr_101 : tptr prog 101 = false := by kernel_rfl
@[simp] theorem tflat_101 : tflat prog 101 = none := by kernel_rfl
@[simp] theorem tsz_104 : tsz prog 104 = some 1 := by kernel_rfl
@[simp] theorem tagg_104 : tagg prog 104 = some false := by kernel_rfl
@[simp] theorem tcells_104 : tcells prog 104 = [104] := by kernel_rfl
@[simp] theorem tslice_104 : tslice prog 104 = none := by kernel_rfl
@[simp] theorem tkind_104 : tkind prog 104 = some 2 := by kernel_rfl
@[simp] theorem tint_104 : tint prog 104 = some IntKind.u8 := by kernel_rfl
@[simp] theorem tbytes_104 : tbytes prog 104 = some 1 := by kernel_rfl
@[simp] theorem tplaces_104 : tplaces prog 104 = none := by kernel_rfl
@[simp] theorem tzero_104 : tzero prog 104 = some (Value.int IntKind.u8 0) := by kernel_rfl
@[simp] theorem tptr_104 : tptr prog 104 = false := by kernel_rfl
@[simp] theorem tflat_104 : tflat prog 104 = none := by kernel_rfl
@[simp] theorem tsz_105 : tsz prog 105 = some 1 := by kernel_rfl
@[simp] theorem tagg_105 : tagg prog 105 = some false := by kernel_rfl
@[simp] theorem tcells_105 : tcells prog 105 = [105] := by kernel_rfl
@[simp] theorem tslice_105 : tslice prog 105 = none := by kernel_rfl
@[simp] theorem tkind_105 : tkind prog 105 = some 2 := by kernel_rfl
@[simp] theorem tint_105 : tint prog 105 = some IntKind.u8 := by kernel_rfl
@[simp] theorem tbytes_105 : tbytes prog 105 = some 1 := by kernel_rfl
@[simp] theorem tplaces_105 : tplaces prog 105 = none := by kernel_rfl
@[simp] theorem tzero_105 : tzero prog 105 = some (Value.int IntKind.u8 0) := by kernel_rfl
@[simp] theorem tptr_105 : tptr prog 105 = false := by kernel_rfl
@[simp] theorem tflat_105 : tflat prog 105 = none := by kernel_rfl
@[simp] theorem tsz_106 : tsz prog 106 = some 1 := by kernel_rfl
@[simp] theorem tagg_106 : tagg prog 106 = some false := by kernel_rfl
@[simp] theorem tcells_106 : tcells prog 106 = [106] := by kernel_rfl
@[simp] theorem tslice_106 : tslice prog 106 = none := by kernel_rfl
@[simp] theorem tkind_106 : tkind prog 106 = some 4 := by kernel_rfl
@[simp] theorem tint_106 : tint prog 106 = none := by kernel_rfl
@[simp] theorem tbytes_106 : tbytes prog 106 = some 8 := by kernel_rfl
@[simp] theorem tplaces_106 : tplaces prog 106 = none := by kernel_rfl
@[simp] theorem tzero_106 : tzero prog 106 = some Value.nilFunc := by kernel_rfl
@[simp] theorem tptr_106 : tptr prog 106 = false := by kernel_rfl
@[simp] theorem tflat_106 : tflat prog 106 = none := by kernel_rfl
@[simp] theorem tsz_107 : tsz prog 107 = some 1 := by kernel_rfl
@[simp] theorem tagg_107 : tagg prog 107 = some false := by kernel_rfl
@[simp] theorem tcells_107 : tcells prog 107 = [107] := by kernel_rfl
@[simp] theorem tslice_107 : tslice prog 107 = none := by kernel_rfl
@[simp] theorem tkind_107 : tkind prog 107 = some 5 := by kernel_rfl
@[simp] theorem tint_107 : tint prog 107 = none := by kernel_rfl
@[simp] theorem tbytes_107 : tbytes prog 107 = some 8 := by kernel_rfl
@[simp] theorem tplaces_107 : tplaces prog 107 = none := by kernel_rfl
@[simp] theorem tzero_107 : tzero prog 107 = some (Value.pointer none) := by kernel_rfl
@[simp] theorem tptr_107 : tptr prog 107 = false := by kernel_rfl
@[simp] theorem tflat_107 : tflat prog 107 = none := by kernel_rfl
@[simp] theorem tsz_108 : tsz prog 108 = some 1 := by kernel_rfl
@[simp] theorem tagg_108 : tagg prog 108 = some false := by kernel_rfl
@[simp] theorem tcells_108 : tcells prog 108 = [108] := by kernel_rfl
@[simp] theorem tslice_108 : tslice prog 108 = none := by kernel_rfl
@[simp] theorem tkind_108 : tkind prog 108 = some 2 := by kernel_rfl
@[simp] theorem tint_108 : tint prog 108 = some IntKind.i32 := by kernel_rfl
@[simp] theorem tbytes_108 : tbytes prog 108 = some 4 := by kernel_rfl
@[simp] theorem tplaces_108 : tplaces prog 108 = none := by kernel_rfl
@[simp] theorem tzero_108 : tzero prog 108 = some (Value.int IntKind.i32 0) := by kernel_rfl
@[simp] theorem tptr_108 : tptr prog 108 = false := by kernel_rfl
@[simp] theorem tflat_108 : tflat prog 108 = none := by kernel_rfl
@[simp] theorem tsz_109 : tsz prog 109 = some 1 := by kernel_rfl
@[simp] theorem tagg_109 : tagg prog 109 = some false := by kernel_rfl
@[simp] theorem tcells_109 : tcells prog 109 = [109] := by kernel_rfl
@[simp] theorem tslice_109 : tslice prog 109 = none := by kernel_rfl
@[simp] theorem tkind_109 : tkind prog 109 = some 2 := by kernel_rfl
@[simp] theorem tint_109 : tint prog 109 = some IntKind.i32 := by kernel_rfl
@[simp] theorem tbytes_109 : tbytes prog 109 = some 4 := by kernel_rfl
@[simp] theorem tplaces_109 : tplaces prog 109 = none := by kernel_rfl
@[simp] theorem tzero_109 : tzero prog 109 = some (Value.int IntKind.i32 0) := by kernel_rfl
@[simp] theorem tptr_109 : tptr prog 109 = false := by kernel_rfl
@[simp] theorem tflat_109 : tflat prog 109 = none := by kernel_rfl
@[simp] theorem tsz_111 : tsz prog 111 = some 11 := by kernel_rfl
@[simp] theorem tagg_111 : tagg prog 111 = some true := by kernel_rfl
@[simp] theorem tcells_111 : tcells prog 111 = [12, 12, 95, 104, 5, 5, 105, 106, 107, 108, 109] := by kernel_rfl
@[simp] theorem tslice_111 : tslice prog 111 = none := by kernel_rfl
@[simp] theorem tkind_111 : tkind prog 111 = some 4 := by kernel_rfl
@[simp] theorem tint_111 : tint prog 111 = none := by kernel_rfl
@[simp] theorem tbytes_111 : tbytes prog 111 = some 48 := by kernel_rfl
@[simp] theorem tplaces_111 : tplaces prog 111 = some [(0, 1), (1, 1), (2, 1), (3, 1), (4, 1), (5, 1), (6, 1), (7, 1), (8, 1), (9, 1), (10, 1)] := by kernel_rfl
@[simp] theorem tzero_111 : tzero prog 111 = some (Value.agg #[Value.int IntKind.u64 0, Value.int IntKind.u64 0, Value.int IntKind.u32 0, Value.int IntKind.u8 0, Value.int IntKind.u8 0, Value.int IntKind.u8 0, Value.int IntKind.u8 0, Value.nilFunc, Value.pointer none, Value.int IntKind.i32 0, Value.int IntKind.i32 0]) := by kernel_rfl
@[simp] theorem tptr_111 : tptr prog 111 = true := by kernel_rfl
@[simp] theorem tflat_111 : tflat prog 111 = none := by kernel_rfl
@[simp] theorem tfield_111_0 : tfield prog 111 0 = some (0, 1, false) := by kernel_rfl
@[simp] theorem tfield_111_1 : tfield prog 111 1 = some (1, 1, false) := by kernel_rfl
@[simp] theorem tfield_111_2 : tfield prog 111 2 = some (2, 1, false) := by kernel_rfl
@[simp] theorem tfield_111_3 : tfield prog 111 3 = some (3, 1, false) := by kernel_rfl
@[simp] theorem tfield_111_4 : tfield prog 111 4 = some (4, 1, false) := by kernel_rfl
@[simp] theorem tfield_111_5 : tfield prog 111 5 = some (5, 1, false) := by kernel_rfl
@[simp] theorem tfield_111_6 : tfield prog 111 6 = some (6, 1, false) := by kernel_rfl
@[simp] theorem tfield_111_7 : tfield prog 111 7 = some (7, 1, false) := by kernel_rfl
@[simp] theorem tfield_111_8 : tfield prog 111 8 = some (8, 1, false) := by kernel_rfl
@[simp] theorem tfield_111_9 : tfield prog 111 9 = some (9, 1, false) := by kernel_rfl
@[simp] theorem tfield_111_10 : tfield prog 111 10 = some (10, 1, false) := by kernel_rfl
@[simp] theorem zc_0 : ((Value.tuple #[]) : Value).cells.size = 1 := by kernel_rfl
@[simp] theorem zc_1 : (Value.nilFunc : Value).cells.size = 1 := by kernel_rfl
@[simp] theorem zc_2 : ((Value.int IntKind.i64 0) : Value).cells.size = 1 := by kernel_rfl
@[simp] theorem zc_3 : ((Value.int IntKind.i64 0) : Value).cells.size = 1 := by kernel_rfl
@[simp] theorem zc_4 : ((Value.bool false) : Value).cells.size = 1 := by kernel_rfl
@[simp] theorem zc_5 : ((Value.int IntKind.u8 0) : Value).cells.size = 1 := by kernel_rfl
@[simp] theorem zc_6 : ((Value.int IntKind.u8 0) : Value).cells.size = 1 := by kernel_rfl
@[simp] theorem zc_8 : ((Value.agg #[Value.int IntKind.i64 0, Value.int IntKind.i64 0, Value.bool false, Value.int IntKind.u8 0]) : Value).cells.size = 4 := by kernel_rfl
@[simp] theorem zc_9 : ((Value.string ⟨#[]⟩) : Value).cells.size = 1 := by kernel_rfl
@[simp] theorem zc_12 : ((Value.int IntKind.u64 0) : Value).cells.size = 1 := by kernel_rfl
@[simp] theorem zc_13 : ((Value.agg #[Value.string ⟨#[]⟩, Value.int IntKind.u64 0]) : Value).cells.size = 2 := by kernel_rfl
@[simp] theorem zc_17 : ((Value.pointer none) : Value).cells.size = 1 := by kernel_rfl
@[simp] theorem zc_18 : ((Value.agg #[Value.pointer none]) : Value).cells.size = 1 := by kernel_rfl
@[simp] theorem zc_21 : ((Value.int IntKind.i32 0) : Value).cells.size = 1 := by kernel_rfl
@[simp] theorem zc_25 : ((Value.slice none 0 0) : Value).cells.size = 1 := by kernel_rfl
@[simp] theorem zc_26 : ((Value.slice none 0 0) : Value).cells.size = 1 := by kernel_rfl
@[simp] theorem zc_27 : ((Value.tuple #[Value.slice none 0 0, Value.slice none 0 0, Value.int IntKind.i64 0]) : Value).cells.size = 1 := by kernel_rfl
@[simp] theorem zc_30 : ((Value.agg #[Value.int IntKind.i64 0, Value.string ⟨#[]⟩, Value.int IntKind.i64 0, Value.int IntKind.i64 0, Value.bool false]) : Value).cells.size = 5 := by kernel_rfl
@[simp] theorem zc_33 : ((Value.slice none 0 0) : Value).cells.size = 1 := by kernel_rfl
@[simp] theorem zc_35 : ((Value.agg #[Value.int IntKind.i64 0, Value.int IntKind.i64 0, Value.slice none 0 0]) : Value).cells.size = 3 := by kernel_rfl
@[simp] theorem zc_36 : ((Value.tuple #[Value.agg #[Value.int IntKind.i64 0, Value.int IntKind.i64 0, Value.slice none 0 0], Value.slice none 0 0, Value.int IntKind.i64 0]) : Value).cells.size = 1 := by kernel_rfl
@[simp] theorem zc_40 : ((Value.pointer none) : Value).cells.size = 1 := by kernel_rfl
@[simp] theorem zc_42 : ((Value.agg #[Value.string ⟨#[]⟩, Value.int IntKind.i64 0, Value.int IntKind.i64 0, Value.slice none 0 0, Value.slice none 0 0]) : Value).cells.size = 5 := by kernel_rfl
@[simp] theorem zc_44 : ((Value.tuple #[Value.agg #[Value.int IntKind.i64 0, Value.int IntKind.i64 0, Value.slice none 0 0], Value.int IntKind.i64 0]) : Value).cells.size = 1 := by kernel_rfl
@[simp] theorem zc_46 : ((Value.tuple #[Value.int IntKind.i64 0, Value.bool false]) : Value).cells.size = 1 := by kernel_rfl
@[simp] theorem zc_49 : (Value.nilFunc : Value).cells.size = 1 := by kernel_rfl
@[simp] theorem zc_52 : ((Value.pointer none) : Value).cells.size = 1 := by kernel_rfl
@[simp] theorem zc_54 : ((Value.agg #[Value.string ⟨#[]⟩, Value.int IntKind.i64 0, Value.int IntKind.i64 0, Value.slice none 0 0, Value.slice none 0 0, Value.int IntKind.i64 0]) : Value).cells.size = 6 := by kernel_rfl
@[simp] theorem zc_57 : ((Value.pointer none) : Value).cells.size = 1 := by kernel_rfl
@[simp] theorem zc_59 : ((Value.agg #[Value.slice none 0 0, Value.int IntKind.i64 0, Value.int IntKind.i64 0, Value.int IntKind.i64 0]) : Value).cells.size = 4 := by kernel_rfl
@[simp] theorem zc_61 : ((Value.pointer none) : Value).cells.size = 1 := by kernel_rfl
@[simp] theorem zc_63 : ((Value.agg #[Value.slice none 0 0, Value.int IntKind.i64 0, Value.int IntKind.i64 0, Value.int IntKind.i64 0]) : Value).cells.size = 4 := by kernel_rfl
@[simp] theorem zc_65 : ((Value.agg #[Value.string ⟨#[]⟩, Value.int IntKind.i64 0, Value.int IntKind.i64 0, Value.int IntKind.i64 0]) : Value).cells.size = 4 := by kernel_rfl
@[simp] theorem zc_67 : ((Value.slice none 0 0) : Value).cells.size = 1 := by kernel_rfl
@[simp] theorem zc_72 : ((Value.tuple #[Value.int IntKind.i32 0, Value.int IntKind.i64 0]) : Value).cells.size = 1 := by kernel_rfl
@[simp] theorem zc_79 : ((Value.tuple #[Value.string ⟨#[]⟩, Value.string ⟨#[]⟩, Value.bool false]) : Value).cells.size = 1 := by kernel_rfl
@[simp] theorem zc_85 : ((Value.agg #[Value.int IntKind.u8 0, Value.int IntKind.u8 0, Value.int IntKind.u8 0, Value.int IntKind.u8 0, Value.int IntKind.u8 0, Value.int IntKind.u8 0, Value.int IntKind.u8 0, Value.int IntKind.u8 0, Value.int IntKind.u8 0, Value.int IntKind.u8 0, Value.int IntKind.u8 0, Value.int IntKind.u8 0, Value.int IntKind.u8 0, Value.int IntKind.u8 0, Value.int IntKind.u8 0, Value.int IntKind.u8 0, Value.int IntKind.u8 0, Value.int IntKind.u8 0, Value.int IntKind.u8 0, Value.int IntKind.u8 0, Value.int IntKind.u8 0, Value.int IntKind.u8 0, Value.int IntKind.u8 0, Value.int IntKind.u8 0, Value.int IntKind.u8 0, Value.int IntKind.u8 0, Value.int IntKind.u8 0, Value.int IntKind.u8 0, Value.int IntKind.u8 0, Value.int IntKind.u8 0, Value.int IntKind.u8 0, Value.int IntKind.u8 0, Value.int IntKind.u8 0, Value.int IntKind.u8 0, Value.int IntKind.u8 0, Value.int IntKind.u8 0, Value.int IntKind.u8 0, Value.int IntKind.u8 0, Value.int IntKind.u8 0, Value.int IntKind.u8 0, Value.int IntKind.u8 0, Value.int IntKind.u8 0, Value.int IntKind.u8 0, Value.int IntKind.u8 0, Value.int IntKind.u8 0, Value.int IntKind.u8 0, Value.int IntKind.u8 0, Value.int IntKind.u8 0, Value.int IntKind.u8 0, Value.int IntKind.u8 0, Value.int IntKind.u8 0, Value.int IntKind.u8 0, Value.int IntKind.u8 0, Value.int IntKind.u8 0, Value.int IntKind.u8 0, Value.int IntKind.u8 0, Value.int IntKind.u8 0, Value.int IntKind.u8 0, Value.int IntKind.u8 0, Value.int IntKind.u8 0, Value.int IntKind.u8 0, Value.int IntKind.u8 0, Value.int IntKind.u8 0, Value.int IntKind.u8 0, Value.int IntKind.u8 0, Value.int IntKind.u8 0, Value.int IntKind.u8 0, Value.int IntKind.u8 0, Value.int IntKind.u8 0, Value.int IntKind.u8 0, Value.int IntKind.u8 0, Value.int IntKind.u8 0, Value.int IntKind.u8 0, Value.int IntKind.u8 0, Value.int IntKind.u8 0, Value.int IntKind.u8 0, Value.int IntKind.u8 0, Value.int IntKind.u8 0, Value.int IntKind.u8 0, Value.int IntKind.u8 0, Value.int IntKind.u8 0, Value.int IntKind.u8 0, Value.int IntKind.u8 0, Value.int IntKind.u8 0, Value.int IntKind.u8 0, Value.int IntKind.u8 0, Value.int IntKind.u8 0, Value.int IntKind.u8 0, Value.int IntKind.u8 0, Value.int IntKind.u8 0, Value.int IntKind.u8 0, Value.int IntKind.u8 0, Value.int IntKind.u8 0, Value.int IntKind.u8 0, Value.int IntKind.u8 0, Value.int IntKind.u8 0, Value.int IntKind.u8 0, Value.int IntKind.u8 0, Value.int IntKind.u8 0, Value.int IntKind.u8 0, Value.int IntKind.u8 0, Value.int IntKind.u8 0, Value.int IntKind.u8 0, Value.int IntKind.u8 0, Value.int IntKind.u8 0, Value.int IntKind.u8 0, Value.int IntKind.u8 0, Value.int IntKind.u8 0, Value.int IntKind.u8 0, Value.int IntKind.u8 0, Value.int IntKind.u8 0, Value.int IntKind.u8 0, Value.int IntKind.u8 0, Value.int IntKind.u8 0, Value.int IntKind.u8 0, Value.int IntKind.u8 0, Value.int IntKind.u8 0, Value.int IntKind.u8 0, Value.int IntKind.u8 0, Value.int IntKind.u8 0, Value.int IntKind.u8 0, Value.int IntKind.u8 0, Value.int IntKind.u8 0, Value.int IntKind.u8 0, Value.int IntKind.u8 0, Value.int IntKind.u8 0, Value.int IntKind.u8 0, Value.int IntKind.u8 0, Value.int IntKind.u8 0, Value.int IntKind.u8 0, Value.int IntKind.u8 0, Value.int IntKind.u8 0, Value.int IntKind.u8 0, Value.int IntKind.u8 0, Value.int IntKind.u8 0, Value.int IntKind.u8 0, Value.int IntKind.u8 0, Value.int IntKind.u8 0, Value.int IntKind.u8 0, Value.int IntKind.u8 0, Value.int IntKind.u8 0, Value.int IntKind.u8 0, Value.int IntKind.u8 0, Value.int IntKind.u8 0, Value.int IntKind.u8 0, Value.int IntKind.u8 0, Value.int IntKind.u8 0, Value.int IntKind.u8 0, Value.int IntKind.u8 0, Value.int IntKind.u8 0, Value.int IntKind.u8 0, Value.int IntKind.u8 0, Value.int IntKind.u8 0, Value.int IntKind.u8 0, Value.int IntKind.u8 0, Value.int IntKind.u8 0, Value.int IntKind.u8 0, Value.int IntKind.u8 0, Value.int IntKind.u8 0, Value.int IntKind.u8 0, Value.int IntKind.u8 0, Value.int IntKind.u8 0, Value.int IntKind.u8 0, Value.int IntKind.u8 0, Value.int IntKind.u8 0, Value.int IntKind.u8 0, Value.int IntKind.u8 0, Value.int IntKind.u8 0, Value.int IntKind.u8 0, Value.int IntKind.u8 0, Value.int IntKind.u8 0, Value.int IntKind.u8 0, Value.int IntKind.u8 0, Value.int IntKind.u8 0, Value.int IntKind.u8 0, Value.int IntKind.u8 0, Value.int IntKind.u8 0, Value.int IntKind.u8 0, Value.int IntKind.u8 0, Value.int IntKind.u8 0, Value.int IntKind.u8 0, Value.int IntKind.u8 0, Value.int IntKind.u8 0, Value.int IntKind.u8 0, Value.int IntKind.u8 0, Value.int IntKind.u8 0, Value.int IntKind.u8 0, Value.int IntKind.u8 0, Value.int IntKind.u8 0, Value.int IntKind.u8 0, Value.int IntKind.u8 0, Value.int IntKind.u8 0, Value.int IntKind.u8 0, Value.int IntKind.u8 0, Value.int IntKind.u8 0, Value.int IntKind.u8 0, Value.int IntKind.u8 0, Value.int IntKind.u8 0, Value.int IntKind.u8 0, Value.int IntKind.u8 0, Value.int IntKind.u8 0, Value.int IntKind.u8 0, Value.int IntKind.u8 0, Value.int IntKind.u8 0, Value.int IntKind.u8 0, Value.int IntKind.u8 0, Value.int IntKind.u8 0, Value.int IntKind.u8 0, Value.int IntKind.u8 0, Value.int IntKind.u8 0, Value.int IntKind.u8 0, Value.int IntKind.u8 0, Value.int IntKind.u8 0, Value.int IntKind.u8 0, Value.int IntKind.u8 0, Value.int IntKind.u8 0, Value.int IntKind.u8 0, Value.int IntKind.u8 0, Value.int IntKind.u8 0, Value.int IntKind.u8 0, Value.int IntKind.u8 0, Value.int IntKind.u8 0, Value.int IntKind.u8 0, Value.int IntKind.u8 0, Value.int IntKind.u8 0, Value.int IntKind.u8 0, Value.int IntKind.u8 0, Value.int IntKind.u8 0, Value.int IntKind.u8 0, Value.int IntKind.u8 0, Value.int IntKind.u8 0, Value.int IntKind.u8 0, Value.int IntKind.u8 0, Value.int IntKind.u8 0, Value.int IntKind.u8 0, Value.int IntKind.u8 0, Value.int IntKind.u8 0, Value.int IntKind.u8 0, Value.int IntKind.u8 0, Value.int IntKind.u8 0, Value.int IntKind.u8 0, Value.int IntKind.u8 0, Value.int IntKind.u8 0, Value.int IntKind.u8 0, Value.int IntKind.u8 0, Value.int IntKind.u8 0, Value.int IntKind.u8 0, Value.int IntKind.u8 0, Value.int IntKind.u8 0, Value.int IntKind.u8 0, Value.int IntKind.u8 0, Value.int IntKind.u8 0, Value.int IntKind.u8 0, Value.int IntKind.u8 0, Value.int IntKind.u8 0, Value.int IntKind.u8 0]) : Value).cells.size = 256 := by kernel_rfl
@[simp] theorem zc_86 : ((Value.int IntKind.u64 0) : Value).cells.size = 1 := by kernel_rfl
@[simp] theorem zc_88 : ((Value.agg #[Value.int IntKind.u8 0, Value.int IntKind.u8 0]) : Value).cells.size = 2 := by kernel_rfl
@[simp] theorem zc_89 : ((Value.agg #[Value.int IntKind.u8 0, Value.int IntKind.u8 0, Value.int IntKind.u8 0, Value.int IntKind.u8 0, Value.int IntKind.u8 0, Value.int IntKind.u8 0, Value.int IntKind.u8 0, Value.int IntKind.u8 0, Value.int IntKind.u8 0, Value.int IntKind.u8 0, Value.int IntKind.u8 0, Value.int IntKind.u8 0, Value.int IntKind.u8 0, Value.int IntKind.u8 0, Value.int IntKind.u8 0, Value.int IntKind.u8 0, Value.int IntKind.u8 0, Value.int IntKind.u8 0, Value.int IntKind.u8 0, Value.int IntKind.u8 0, Value.int IntKind.u8 0, Value.int IntKind.u8 0, Value.int IntKind.u8 0, Value.int IntKind.u8 0, Value.int IntKind.u8 0, Value.int IntKind.u8 0, Value.int IntKind.u8 0, Value.int IntKind.u8 0, Value.int IntKind.u8 0, Value.int IntKind.u8 0, Value.int IntKind.u8 0, Value.int IntKind.u8 0]) : Value).cells.size = 32 := by kernel_rfl
@[simp] theorem zc_94 : ((Value.slice none 0 0) : Value).cells.size = 1 := by kernel_rfl
@[simp] theorem zc_95 : ((Value.int IntKind.u32 0) : Value).cells.size = 1 := by kernel_rfl
@[simp] theorem zc_96 : ((Value.tuple #[Value.int IntKind.u32 0, Value.int IntKind.u32 0]) : Value).cells.size = 1 := by kernel_rfl
@[simp] theorem zc_97 : (Value.nilFunc : Value).cells.size = 1 := by kernel_rfl
@[simp] theorem zc_101 : ((Value.agg #[]) : Value).cells.size = 0 := by kernel_rfl
@[simp] theorem zc_104 : ((Value.int IntKind.u8 0) : Value).cells.size = 1 := by kernel_rfl
@[simp] theorem zc_105 : ((Value.int IntKind.u8 0) : Value).cells.size = 1 := by kernel_rfl
@[simp] theorem zc_106 : (Value.nilFunc : Value).cells.size = 1 := by kernel_rfl
@[simp] theorem zc_107 : ((Value.pointer none) : Value).cells.size = 1 := by kernel_rfl
@[simp] theorem zc_108 : ((Value.int IntKind.i32 0) : Value).cells.size = 1 := by kernel_rfl
@[simp] theorem zc_109 : ((Value.int IntKind.i32 0) : Value).cells.size = 1 := by kernel_rfl
@[simp] theorem zc_111 : ((Value.agg #[Value.int IntKind.u64 0, Value.int IntKind.u64 0, Value.int IntKind.u32 0, Value.int IntKind.u8 0, Value.int IntKind.u8 0, Value.int IntKind.u8 0, Value.int IntKind.u8 0, Value.nilFunc, Value.pointer none, Value.int IntKind.i32 0, Value.int IntKind.i32 0]) : Value).cells.size = 11 := by kernel_rfl
@[simp] theorem mixed : prog.follows .mixedOrders = true := by kernel_rfl
end Go.Proofs.Tryz
