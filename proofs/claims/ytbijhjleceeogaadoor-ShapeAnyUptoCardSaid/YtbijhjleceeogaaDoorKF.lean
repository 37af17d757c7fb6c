/- Part of the proof: contracts of the functions, walked by the D-machine. No condition. -/
import Derived.Test.YtbijhjleceeogaaDoorDk
import Derived.Test.YtbijhjleceeogaaDoorProg
set_option linter.unusedSimpArgs false
namespace Go.Proofs.Tryd
open Go Go.Proofs Go.Proofs.Dm
@[simp] theorem tsz_0 : tsz prog 0 = some 1 := by kernel_rfl
@[simp] theorem tagg_0 : tagg prog 0 = some false := by kernel_rfl
@[simp] theorem tcells_0 : tcells prog 0 = [0] := by kernel_rfl
@[simp] theorem tslice_0 : tslice prog 0 = none := by kernel_rfl
@[simp] theorem tkind_0 : tkind prog 0 = some 4 := by kernel_rfl
@[simp] theorem tint_0 : tint prog 0 = none := by kernel_rfl
@[simp] theorem tbytes_0 : tbytes prog 0 = some 0 := by kernel_rfl
@[simp] theorem tplaces_0 : tplaces prog 0 = none := by kernel_rfl
@[simp] theorem tzero_0 : tzero prog 0 = some (Value.tuple #[]) := by kernel_rfl
@[simp] theorem tptr_0 : tptr prog 0 = false := by kernel_rfl
@[simp] theorem tflat_0 : tflat prog 0 = none := by kernel_rfl
@[simp] theorem tsz_1 : tsz prog 1 = some 1 := by kernel_rfl
@[simp] theorem tagg_1 : tagg prog 1 = some false := by kernel_rfl
@[simp] theorem tcells_1 : tcells prog 1 = [1] := by kernel_rfl
@[simp] theorem tslice_1 : tslice prog 1 = none := by kernel_rfl
@[simp] theorem tkind_1 : tkind prog 1 = some 4 := by kernel_rfl
@[simp] theorem tint_1 : tint prog 1 = none := by kernel_rfl
@[simp] theorem tbytes_1 : tbytes prog 1 = some 8 := by kernel_rfl
@[simp] theorem tplaces_1 : tplaces prog 1 = none := by kernel_rfl
@[simp] theorem tzero_1 : tzero prog 1 = some Value.nilFunc := by kernel_rfl
@[simp] theorem tptr_1 : tptr prog 1 = false := by kernel_rfl
@[simp] theorem tflat_1 : tflat prog 1 = none := by kernel_rfl
@[simp] theorem tsz_2 : tsz prog 2 = some 1 := by kernel_rfl
@[simp] theorem tagg_2 : tagg prog 2 = some false := by kernel_rfl
@[simp] theorem tcells_2 : tcells prog 2 = [2] := by kernel_rfl
@[simp] theorem tslice_2 : tslice prog 2 = none := by kernel_rfl
@[simp] theorem tkind_2 : tkind prog 2 = some 2 := by kernel_rfl
@[simp] theorem tint_2 : tint prog 2 = some IntKind.i64 := by kernel_rfl
@[simp] theorem tbytes_2 : tbytes prog 2 = some 8 := by kernel_rfl
@[simp] theorem tplaces_2 : tplaces prog 2 = none := by kernel_rfl
@[simp] theorem tzero_2 : tzero prog 2 = some (Value.int IntKind.i64 0) := by kernel_rfl
@[simp] theorem tptr_2 : tptr prog 2 = false := by kernel_rfl
@[simp] theorem tflat_2 : tflat prog 2 = none := by kernel_rfl
@[simp] theorem tsz_3 : tsz prog 3 = some 1 := by kernel_rfl
@[simp] theorem tagg_3 : tagg prog 3 = some false := by kernel_rfl
@[simp] theorem tcells_3 : tcells prog 3 = [3] := by kernel_rfl
@[simp] theorem tslice_3 : tslice prog 3 = none := by kernel_rfl
@[simp] theorem tkind_3 : tkind prog 3 = some 2 := by kernel_rfl
@[simp] theorem tint_3 : tint prog 3 = some IntKind.i64 := by kernel_rfl
@[simp] theorem tbytes_3 : tbytes prog 3 = some 8 := by kernel_rfl
@[simp] theorem tplaces_3 : tplaces prog 3 = none := by kernel_rfl
@[simp] theorem tzero_3 : tzero prog 3 = some (Value.int IntKind.i64 0) := by kernel_rfl
@[simp] theorem tptr_3 : tptr prog 3 = false := by kernel_rfl
@[simp] theorem tflat_3 : tflat prog 3 = none := by kernel_rfl
@[simp] theorem tsz_4 : tsz prog 4 = some 1 := by kernel_rfl
@[simp] theorem tagg_4 : tagg prog 4 = some false := by kernel_rfl
@[simp] theorem tcells_4 : tcells prog 4 = [4] := by kernel_rfl
@[simp] theorem tslice_4 : tslice prog 4 = none := by kernel_rfl
@[simp] theorem tkind_4 : tkind prog 4 = some 1 := by kernel_rfl
@[simp] theorem tint_4 : tint prog 4 = none := by kernel_rfl
@[simp] theorem tbytes_4 : tbytes prog 4 = some 1 := by kernel_rfl
@[simp] theorem tplaces_4 : tplaces prog 4 = none := by kernel_rfl
@[simp] theorem tzero_4 : tzero prog 4 = some (Value.bool false) := by kernel_rfl
@[simp] theorem tptr_4 : tptr prog 4 = false := by kernel_rfl
@[simp] theorem tflat_4 : tflat prog 4 = none := by kernel_rfl
@[simp] theorem tsz_5 : tsz prog 5 = some 1 := by kernel_rfl
@[simp] theorem tagg_5 : tagg prog 5 = some false := by kernel_rfl
@[simp] theorem tcells_5 : tcells prog 5 = [5] := by kernel_rfl
@[simp] theorem tslice_5 : tslice prog 5 = none := by kernel_rfl
@[simp] theorem tkind_5 : tkind prog 5 = some 2 := by kernel_rfl
@[simp] theorem tint_5 : tint prog 5 = some IntKind.u8 := by kernel_rfl
@[simp] theorem tbytes_5 : tbytes prog 5 = some 1 := by kernel_rfl
@[simp] theorem tplaces_5 : tplaces prog 5 = none := by kernel_rfl
@[simp] theorem tzero_5 : tzero prog 5 = some (Value.int IntKind.u8 0) := by kernel_rfl
@[simp] theorem tptr_5 : tptr prog 5 = true := by kernel_rfl
@[simp] theorem tflat_5 : tflat prog 5 = none := by kernel_rfl
@[simp] theorem tsz_6 : tsz prog 6 = some 1 := by kernel_rfl
@[simp] theorem tagg_6 : tagg prog 6 = some false := by kernel_rfl
@[simp] theorem tcells_6 : tcells prog 6 = [6] := by kernel_rfl
@[simp] theorem tslice_6 : tslice prog 6 = none := by kernel_rfl
@[simp] theorem tkind_6 : tkind prog 6 = some 2 := by kernel_rfl
@[simp] theorem tint_6 : tint prog 6 = some IntKind.u8 := by kernel_rfl
@[simp] theorem tbytes_6 : tbytes prog 6 = some 1 := by kernel_rfl
@[simp] theorem tplaces_6 : tplaces prog 6 = none := by kernel_rfl
@[simp] theorem tzero_6 : tzero prog 6 = some (Value.int IntKind.u8 0) := by kernel_rfl
@[simp] theorem tptr_6 : tptr prog 6 = false := by kernel_rfl
@[simp] theorem tflat_6 : tflat prog 6 = none := by kernel_rfl
@[simp] theorem tsz_7 : tsz prog 7 = some 4 := by kernel_rfl
@[simp] theorem tagg_7 : tagg prog 7 = some true := by kernel_rfl
@[simp] theorem tcells_7 : tcells prog 7 = [2, 3, 4, 6] := by kernel_rfl
@[simp] theorem tslice_7 : tslice prog 7 = none := by kernel_rfl
@[simp] theorem tkind_7 : tkind prog 7 = some 4 := by kernel_rfl
@[simp] theorem tint_7 : tint prog 7 = none := by kernel_rfl
@[simp] theorem tbytes_7 : tbytes prog 7 = some 24 := by kernel_rfl
@[simp] theorem tplaces_7 : tplaces prog 7 = some [(0, 1), (1, 1), (2, 1), (3, 1)] := by kernel_rfl
@[simp] theorem tzero_7 : tzero prog 7 = some (Value.agg #[Value.int IntKind.i64 0, Value.int IntKind.i64 0, Value.bool false, Value.int IntKind.u8 0]) := by kernel_rfl
@[simp] theorem tptr_7 : tptr prog 7 = false := by kernel_rfl
@[simp] theorem tflat_7 : tflat prog 7 = some [2, 2, 1, 2] := by kernel_rfl
@[simp] theorem tfield_7_0 : tfield prog 7 0 = some (0, 1, false) := by kernel_rfl
@[simp] theorem tfield_7_1 : tfield prog 7 1 = some (1, 1, false) := by kernel_rfl
@[simp] theorem tfield_7_2 : tfield prog 7 2 = some (2, 1, false) := by kernel_rfl
@[simp] theorem tfield_7_3 : tfield prog 7 3 = some (3, 1, false) := by kernel_rfl
@[simp] theorem tsz_8 : tsz prog 8 = some 4 := by kernel_rfl
@[simp] theorem tagg_8 : tagg prog 8 = some true := by kernel_rfl
@[simp] theorem tcells_8 : tcells prog 8 = [2, 3, 4, 6] := by kernel_rfl
@[simp] theorem tslice_8 : tslice prog 8 = none := by kernel_rfl
@[simp] theorem tkind_8 : tkind prog 8 = some 4 := by kernel_rfl
@[simp] theorem tint_8 : tint prog 8 = none := by kernel_rfl
@[simp] theorem tbytes_8 : tbytes prog 8 = some 24 := by kernel_rfl
@[simp] theorem tplaces_8 : tplaces prog 8 = some [(0, 1), (1, 1), (2, 1), (3, 1)] := by kernel_rfl
@[simp] theorem tzero_8 : tzero prog 8 = some (Value.agg #[Value.int IntKind.i64 0, Value.int IntKind.i64 0, Value.bool false, Value.int IntKind.u8 0]) := by kernel_rfl
@[simp] theorem tptr_8 : tptr prog 8 = false := by kernel_rfl
@[simp] theorem tflat_8 : tflat prog 8 = some [2, 2, 1, 2] := by kernel_rfl
@[simp] theorem tfield_8_0 : tfield prog 8 0 = some (0, 1, false) := by kernel_rfl
@[simp] theorem tfield_8_1 : tfield prog 8 1 = some (1, 1, false) := by kernel_rfl
@[simp] theorem tfield_8_2 : tfield prog 8 2 = some (2, 1, false) := by kernel_rfl
@[simp] theorem tfield_8_3 : tfield prog 8 3 = some (3, 1, false) := by kernel_rfl
@[simp] theorem tsz_9 : tsz prog 9 = some 1 := by kernel_rfl
@[simp] theorem tagg_9 : tagg prog 9 = some false := by kernel_rfl
@[simp] theorem tcells_9 : tcells prog 9 = [9] := by kernel_rfl
@[simp] theorem tslice_9 : tslice prog 9 = none := by kernel_rfl
@[simp] theorem tkind_9 : tkind prog 9 = some 0 := by kernel_rfl
@[simp] theorem tint_9 : tint prog 9 = none := by kernel_rfl
@[simp] theorem tbytes_9 : tbytes prog 9 = some 16 := by kernel_rfl
@[simp] theorem tplaces_9 : tplaces prog 9 = none := by kernel_rfl
@[simp] theorem tzero_9 : tzero prog 9 = some (Value.string ⟨#[]⟩) := by kernel_rfl
@[simp] theorem tptr_9 : tptr prog 9 = false := by kernel_rfl
@[simp] theorem tflat_9 : tflat prog 9 = none := by kernel_rfl
@[simp] theorem tsz_10 : tsz prog 10 = some 1 := by kernel_rfl
@[simp] theorem tagg_10 : tagg prog 10 = some false := by kernel_rfl
@[simp] theorem tcells_10 : tcells prog 10 = [10] := by kernel_rfl
@[simp] theorem tslice_10 : tslice prog 10 = none := by kernel_rfl
@[simp] theorem tkind_10 : tkind prog 10 = some 0 := by kernel_rfl
@[simp] theorem tint_10 : tint prog 10 = none := by kernel_rfl
@[simp] theorem tbytes_10 : tbytes prog 10 = some 16 := by kernel_rfl
@[simp] theorem tplaces_10 : tplaces prog 10 = none := by kernel_rfl
@[simp] theorem tzero_10 : tzero prog 10 = some (Value.string ⟨#[]⟩) := by kernel_rfl
@[simp] theorem tptr_10 : tptr prog 10 = false := by kernel_rfl
@[simp] theorem tflat_10 : tflat prog 10 = none := by kernel_rfl
@[simp] theorem tsz_11 : tsz prog 11 = some 1 := by kernel_rfl
@[simp] theorem tagg_11 : tagg prog 11 = some false := by kernel_rfl
@[simp] theorem tcells_11 : tcells prog 11 = [11] := by kernel_rfl
@[simp] theorem tslice_11 : tslice prog 11 = none := by kernel_rfl
@[simp] theorem tkind_11 : tkind prog 11 = some 0 := by kernel_rfl
@[simp] theorem tint_11 : tint prog 11 = none := by kernel_rfl
@[simp] theorem tbytes_11 : tbytes prog 11 = some 16 := by kernel_rfl
@[simp] theorem tplaces_11 : tplaces prog 11 = none := by kernel_rfl
@[simp] theorem tzero_11 : tzero prog 11 = some (Value.string ⟨#[]⟩) := by kernel_rfl
@[simp] theorem tptr_11 : tptr prog 11 = false := by kernel_rfl
@[simp] theorem tflat_11 : tflat prog 11 = none := by kernel_rfl
@[simp] theorem tsz_12 : tsz prog 12 = some 1 := by kernel_rfl
@[simp] theorem tagg_12 : tagg prog 12 = some false := by kernel_rfl
@[simp] theorem tcells_12 : tcells prog 12 = [12] := by kernel_rfl
@[simp] theorem tslice_12 : tslice prog 12 = none := by kernel_rfl
@[simp] theorem tkind_12 : tkind prog 12 = some 2 := by kernel_rfl
@[simp] theorem tint_12 : tint prog 12 = some IntKind.u64 := by kernel_rfl
@[simp] theorem tbytes_12 : tbytes prog 12 = some 8 := by kernel_rfl
@[simp] theorem tplaces_12 : tplaces prog 12 = none := by kernel_rfl
@[simp] theorem tzero_12 : tzero prog 12 = some (Value.int IntKind.u64 0) := by kernel_rfl
@[simp] theorem tptr_12 : tptr prog 12 = false := by kernel_rfl
@[simp] theorem tflat_12 : tflat prog 12 = none := by kernel_rfl
@[simp] theorem tsz_13 : tsz prog 13 = some 2 := by kernel_rfl
@[simp] theorem tagg_13 : tagg prog 13 = some true := by kernel_rfl
@[simp] theorem tcells_13 : tcells prog 13 = [9, 12] := by kernel_rfl
@[simp] theorem tslice_13 : tslice prog 13 = none := by kernel_rfl
@[simp] theorem tkind_13 : tkind prog 13 = some 4 := by kernel_rfl
@[simp] theorem tint_13 : tint prog 13 = none := by kernel_rfl
@[simp] theorem tbytes_13 : tbytes prog 13 = some 24 := by kernel_rfl
@[simp] theorem tplaces_13 : tplaces prog 13 = some [(0, 1), (1, 1)] := by kernel_rfl
@[simp] theorem tzero_13 : tzero prog 13 = some (Value.agg #[Value.string ⟨#[]⟩, Value.int IntKind.u64 0]) := by kernel_rfl
@[simp] theorem tptr_13 : tptr prog 13 = false := by kernel_rfl
@[simp] theorem tflat_13 : tflat prog 13 = none := by kernel_rfl
@[simp] theorem tfield_13_0 : tfield prog 13 0 = some (0, 1, false) := by kernel_rfl
@[simp] theorem tfield_13_1 : tfield prog 13 1 = some (1, 1, false) := by kernel_rfl
@[simp] theorem tsz_14 : tsz prog 14 = some 2 := by kernel_rfl
@[simp] theorem tagg_14 : tagg prog 14 = some true := by kernel_rfl
@[simp] theorem tcells_14 : tcells prog 14 = [9, 12] := by kernel_rfl
@[simp] theorem tslice_14 : tslice prog 14 = none := by kernel_rfl
@[simp] theorem tkind_14 : tkind prog 14 = some 4 := by kernel_rfl
@[simp] theorem tint_14 : tint prog 14 = none := by kernel_rfl
@[simp] theorem tbytes_14 : tbytes prog 14 = some 24 := by kernel_rfl
@[simp] theorem tplaces_14 : tplaces prog 14 = some [(0, 1), (1, 1)] := by kernel_rfl
@[simp] theorem tzero_14 : tzero prog 14 = some (Value.agg #[Value.string ⟨#[]⟩, Value.int IntKind.u64 0]) := by kernel_rfl
@[simp] theorem tptr_14 : tptr prog 14 = false := by kernel_rfl
@[simp] theorem tflat_14 : tflat prog 14 = none := by kernel_rfl
@[simp] theorem tfield_14_0 : tfield prog 14 0 = some (0, 1, false) := by kernel_rfl
@[simp] theorem tfield_14_1 : tfield prog 14 1 = some (1, 1, false) := by kernel_rfl
@[simp] theorem tsz_15 : tsz prog 15 = some 1 := by kernel_rfl
@[simp] theorem tagg_15 : tagg prog 15 = some false := by kernel_rfl
@[simp] theorem tcells_15 : tcells prog 15 = [15] := by kernel_rfl
@[simp] theorem tslice_15 : tslice prog 15 = none := by kernel_rfl
@[simp] theorem tkind_15 : tkind prog 15 = some 5 := by kernel_rfl
@[simp] theorem tint_15 : tint prog 15 = none := by kernel_rfl
@[simp] theorem tbytes_15 : tbytes prog 15 = some 8 := by kernel_rfl
@[simp] theorem tplaces_15 : tplaces prog 15 = none := by kernel_rfl
@[simp] theorem tzero_15 : tzero prog 15 = some (Value.pointer none) := by kernel_rfl
@[simp] theorem tptr_15 : tptr prog 15 = false := by kernel_rfl
@[simp] theorem tflat_15 : tflat prog 15 = none := by kernel_rfl
@[simp] theorem tsz_16 : tsz prog 16 = some 1 := by kernel_rfl
@[simp] theorem tagg_16 : tagg prog 16 = some false := by kernel_rfl
@[simp] theorem tcells_16 : tcells prog 16 = [16] := by kernel_rfl
@[simp] theorem tslice_16 : tslice prog 16 = none := by kernel_rfl
@[simp] theorem tkind_16 : tkind prog 16 = some 5 := by kernel_rfl
@[simp] theorem tint_16 : tint prog 16 = none := by kernel_rfl
@[simp] theorem tbytes_16 : tbytes prog 16 = some 8 := by kernel_rfl
@[simp] theorem tplaces_16 : tplaces prog 16 = none := by kernel_rfl
@[simp] theorem tzero_16 : tzero prog 16 = some (Value.pointer none) := by kernel_rfl
@[simp] theorem tptr_16 : tptr prog 16 = false := by kernel_rfl
@[simp] theorem tflat_16 : tflat prog 16 = none := by kernel_rfl
@[simp] theorem tsz_17 : tsz prog 17 = some 1 := by kernel_rfl
@[simp] theorem tagg_17 : tagg prog 17 = some false := by kernel_rfl
@[simp] theorem tcells_17 : tcells prog 17 = [17] := by kernel_rfl
@[simp] theorem tslice_17 : tslice prog 17 = none := by kernel_rfl
@[simp] theorem tkind_17 : tkind prog 17 = some 5 := by kernel_rfl
@[simp] theorem tint_17 : tint prog 17 = none := by kernel_rfl
@[simp] theorem tbytes_17 : tbytes prog 17 = some 8 := by kernel_rfl
@[simp] theorem tplaces_17 : tplaces prog 17 = none := by kernel_rfl
@[simp] theorem tzero_17 : tzero prog 17 = some (Value.pointer none) := by kernel_rfl
@[simp] theorem tptr_17 : tptr prog 17 = false := by kernel_rfl
@[simp] theorem tflat_17 : tflat prog 17 = none := by kernel_rfl
@[simp] theorem tsz_18 : tsz prog 18 = some 1 := by kernel_rfl
@[simp] theorem tagg_18 : tagg prog 18 = some true := by kernel_rfl
@[simp] theorem tcells_18 : tcells prog 18 = [17] := by kernel_rfl
@[simp] theorem tslice_18 : tslice prog 18 = none := by kernel_rfl
@[simp] theorem tkind_18 : tkind prog 18 = some 4 := by kernel_rfl
@[simp] theorem tint_18 : tint prog 18 = none := by kernel_rfl
@[simp] theorem tbytes_18 : tbytes prog 18 = some 8 := by kernel_rfl
@[simp] theorem tplaces_18 : tplaces prog 18 = some [(0, 1)] := by kernel_rfl
@[simp] theorem tzero_18 : tzero prog 18 = some (Value.agg #[Value.pointer none]) := by kernel_rfl
@[simp] theorem tptr_18 : tptr prog 18 = false := by kernel_rfl
@[simp] theorem tflat_18 : tflat prog 18 = none := by kernel_rfl
@[simp] theorem tfield_18_0 : tfield prog 18 0 = some (0, 1, false) := by kernel_rfl
@[simp] theorem tsz_19 : tsz prog 19 = some 1 := by kernel_rfl
@[simp] theorem tagg_19 : tagg prog 19 = some true := by kernel_rfl
@[simp] theorem tcells_19 : tcells prog 19 = [17] := by kernel_rfl
@[simp] theorem tslice_19 : tslice prog 19 = none := by kernel_rfl
@[simp] theorem tkind_19 : tkind prog 19 = some 4 := by kernel_rfl
@[simp] theorem tint_19 : tint prog 19 = none := by kernel_rfl
@[simp] theorem tbytes_19 : tbytes prog 19 = some 8 := by kernel_rfl
@[simp] theorem tplaces_19 : tplaces prog 19 = some [(0, 1)] := by kernel_rfl
@[simp] theorem tzero_19 : tzero prog 19 = some (Value.agg #[Value.pointer none]) := by kernel_rfl
@[simp] theorem tptr_19 : tptr prog 19 = false := by kernel_rfl
@[simp] theorem tflat_19 : tflat prog 19 = none := by kernel_rfl
@[simp] theorem tfield_19_0 : tfield prog 19 0 = some (0, 1, false) := by kernel_rfl
@[simp] theorem tsz_20 : tsz prog 20 = some 1 := by kernel_rfl
@[simp] theorem tagg_20 : tagg prog 20 = some false := by kernel_rfl
@[simp] theorem tcells_20 : tcells prog 20 = [20] := by kernel_rfl
@[simp] theorem tslice_20 : tslice prog 20 = none := by kernel_rfl
@[simp] theorem tkind_20 : tkind prog 20 = some 4 := by kernel_rfl
@[simp] theorem tint_20 : tint prog 20 = none := by kernel_rfl
@[simp] theorem tbytes_20 : tbytes prog 20 = some 16 := by kernel_rfl
@[simp] theorem tplaces_20 : tplaces prog 20 = none := by kernel_rfl
@[simp] theorem tzero_20 : tzero prog 20 = some Value.nilIface := by kernel_rfl
@[simp] theorem tptr_20 : tptr prog 20 = false := by kernel_rfl
@[simp] theorem tflat_20 : tflat prog 20 = none := by kernel_rfl
@[simp] theorem tsz_21 : tsz prog 21 = some 1 := by kernel_rfl
@[simp] theorem tagg_21 : tagg prog 21 = some false := by kernel_rfl
@[simp] theorem tcells_21 : tcells prog 21 = [21] := by kernel_rfl
@[simp] theorem tslice_21 : tslice prog 21 = none := by kernel_rfl
@[simp] theorem tkind_21 : tkind prog 21 = some 2 := by kernel_rfl
@[simp] theorem tint_21 : tint prog 21 = some IntKind.i32 := by kernel_rfl
@[simp] theorem tbytes_21 : tbytes prog 21 = some 4 := by kernel_rfl
@[simp] theorem tplaces_21 : tplaces prog 21 = none := by kernel_rfl
@[simp] theorem tzero_21 : tzero prog 21 = some (Value.int IntKind.i32 0) := by kernel_rfl
@[simp] theorem tptr_21 : tptr prog 21 = false := by kernel_rfl
@[simp] theorem tflat_21 : tflat prog 21 = none := by kernel_rfl
@[simp] theorem tsz_22 : tsz prog 22 = some 1 := by kernel_rfl
@[simp] theorem tagg_22 : tagg prog 22 = some false := by kernel_rfl
@[simp] theorem tcells_22 : tcells prog 22 = [22] := by kernel_rfl
@[simp] theorem tslice_22 : tslice prog 22 = some 24 := by kernel_rfl
@[simp] theorem tkind_22 : tkind prog 22 = some 3 := by kernel_rfl
@[simp] theorem tint_22 : tint prog 22 = none := by kernel_rfl
@[simp] theorem tbytes_22 : tbytes prog 22 = some 24 := by kernel_rfl
@[simp] theorem tplaces_22 : tplaces prog 22 = none := by kernel_rfl
@[simp] theorem tzero_22 : tzero prog 22 = some (Value.slice none 0 0) := by kernel_rfl
@[simp] theorem tptr_22 : tptr prog 22 = false := by kernel_rfl
@[simp] theorem tflat_22 : tflat prog 22 = none := by kernel_rfl
@[simp] theorem tsz_23 : tsz prog 23 = some 3 := by kernel_rfl
@[simp] theorem tagg_23 : tagg prog 23 = some true := by kernel_rfl
@[simp] theorem tcells_23 : tcells prog 23 = [3, 3, 22] := by kernel_rfl
@[simp] theorem tslice_23 : tslice prog 23 = none := by kernel_rfl
@[simp] theorem tkind_23 : tkind prog 23 = some 4 := by kernel_rfl
@[simp] theorem tint_23 : tint prog 23 = none := by kernel_rfl
@[simp] theorem tbytes_23 : tbytes prog 23 = some 40 := by kernel_rfl
@[simp] theorem tplaces_23 : tplaces prog 23 = some [(0, 1), (1, 1), (2, 1)] := by kernel_rfl
@[simp] theorem tzero_23 : tzero prog 23 = some (Value.agg #[Value.int IntKind.i64 0, Value.int IntKind.i64 0, Value.slice none 0 0]) := by kernel_rfl
@[simp] theorem tptr_23 : tptr prog 23 = false := by kernel_rfl
@[simp] theorem tflat_23 : tflat prog 23 = some [2, 2, 3] := by kernel_rfl
@[simp] theorem tfield_23_0 : tfield prog 23 0 = some (0, 1, false) := by kernel_rfl
@[simp] theorem tfield_23_1 : tfield prog 23 1 = some (1, 1, false) := by kernel_rfl
@[simp] theorem tfield_23_2 : tfield prog 23 2 = some (2, 1, false) := by kernel_rfl
@[simp] theorem tsz_24 : tsz prog 24 = some 3 := by kernel_rfl
@[simp] theorem tagg_24 : tagg prog 24 = some true := by kernel_rfl
@[simp] theorem tcells_24 : tcells prog 24 = [3, 3, 22] := by kernel_rfl
@[simp] theorem tslice_24 : tslice prog 24 = none := by kernel_rfl
@[simp] theorem tkind_24 : tkind prog 24 = some 4 := by kernel_rfl
@[simp] theorem tint_24 : tint prog 24 = none := by kernel_rfl
@[simp] theorem tbytes_24 : tbytes prog 24 = some 40 := by kernel_rfl
@[simp] theorem tplaces_24 : tplaces prog 24 = some [(0, 1), (1, 1), (2, 1)] := by kernel_rfl
@[simp] theorem tzero_24 : tzero prog 24 = some (Value.agg #[Value.int IntKind.i64 0, Value.int IntKind.i64 0, Value.slice none 0 0]) := by kernel_rfl
@[simp] theorem tptr_24 : tptr prog 24 = false := by kernel_rfl
@[simp] theorem tflat_24 : tflat prog 24 = some [2, 2, 3] := by kernel_rfl
@[simp] theorem tfield_24_0 : tfield prog 24 0 = some (0, 1, false) := by kernel_rfl
@[simp] theorem tfield_24_1 : tfield prog 24 1 = some (1, 1, false) := by kernel_rfl
@[simp] theorem tfield_24_2 : tfield prog 24 2 = some (2, 1, false) := by kernel_rfl
@[simp] theorem tsz_25 : tsz prog 25 = some 1 := by kernel_rfl
@[simp] theorem tagg_25 : tagg prog 25 = some false := by kernel_rfl
@[simp] theorem tcells_25 : tcells prog 25 = [25] := by kernel_rfl
@[simp] theorem tslice_25 : tslice prog 25 = some 39 := by kernel_rfl
@[simp] theorem tkind_25 : tkind prog 25 = some 3 := by kernel_rfl
@[simp] theorem tint_25 : tint prog 25 = none := by kernel_rfl
@[simp] theorem tbytes_25 : tbytes prog 25 = some 24 := by kernel_rfl
@[simp] theorem tplaces_25 : tplaces prog 25 = none := by kernel_rfl
@[simp] theorem tzero_25 : tzero prog 25 = some (Value.slice none 0 0) := by kernel_rfl
@[simp] theorem tptr_25 : tptr prog 25 = false := by kernel_rfl
@[simp] theorem tflat_25 : tflat prog 25 = none := by kernel_rfl
@[simp] theorem tsz_26 : tsz prog 26 = some 1 := by kernel_rfl
@[simp] theorem tagg_26 : tagg prog 26 = some false := by kernel_rfl
@[simp] theorem tcells_26 : tcells prog 26 = [26] := by kernel_rfl
@[simp] theorem tslice_26 : tslice prog 26 = none := by kernel_rfl
@[simp] theorem tkind_26 : tkind prog 26 = some 4 := by kernel_rfl
@[simp] theorem tint_26 : tint prog 26 = none := by kernel_rfl
@[simp] theorem tbytes_26 : tbytes prog 26 = some 8 := by kernel_rfl
@[simp] theorem tplaces_26 : tplaces prog 26 = none := by kernel_rfl
@[simp] theorem tzero_26 : tzero prog 26 = some Value.nilFunc := by kernel_rfl
@[simp] theorem tptr_26 : tptr prog 26 = false := by kernel_rfl
@[simp] theorem tflat_26 : tflat prog 26 = none := by kernel_rfl
@[simp] theorem tsz_27 : tsz prog 27 = some 1 := by kernel_rfl
@[simp] theorem tagg_27 : tagg prog 27 = some false := by kernel_rfl
@[simp] theorem tcells_27 : tcells prog 27 = [27] := by kernel_rfl
@[simp] theorem tslice_27 : tslice prog 27 = none := by kernel_rfl
@[simp] theorem tkind_27 : tkind prog 27 = some 4 := by kernel_rfl
@[simp] theorem tint_27 : tint prog 27 = none := by kernel_rfl
@[simp] theorem tbytes_27 : tbytes prog 27 = some 8 := by kernel_rfl
@[simp] theorem tplaces_27 : tplaces prog 27 = none := by kernel_rfl
@[simp] theorem tzero_27 : tzero prog 27 = some Value.nilFunc := by kernel_rfl
@[simp] theorem tptr_27 : tptr prog 27 = false := by kernel_rfl
@[simp] theorem tflat_27 : tflat prog 27 = none := by kernel_rfl
@[simp] theorem tsz_28 : tsz prog 28 = some 1 := by kernel_rfl
@[simp] theorem tagg_28 : tagg prog 28 = some false := by kernel_rfl
@[simp] theorem tcells_28 : tcells prog 28 = [28] := by kernel_rfl
@[simp] theorem tslice_28 : tslice prog 28 = none := by kernel_rfl
@[simp] theorem tkind_28 : tkind prog 28 = some 4 := by kernel_rfl
@[simp] theorem tint_28 : tint prog 28 = none := by kernel_rfl
@[simp] theorem tbytes_28 : tbytes prog 28 = some 8 := by kernel_rfl
@[simp] theorem tplaces_28 : tplaces prog 28 = none := by kernel_rfl
@[simp] theorem tzero_28 : tzero prog 28 = some Value.nilFunc := by kernel_rfl
@[simp] theorem tptr_28 : tptr prog 28 = false := by kernel_rfl
@[simp] theorem tflat_28 : tflat prog 28 = none := by kernel_rfl
@[simp] theorem tsz_29 : tsz prog 29 = some 1 := by kernel_rfl
@[simp] theorem tagg_29 : tagg prog 29 = some false := by kernel_rfl
@[simp] theorem tcells_29 : tcells prog 29 = [29] := by kernel_rfl
@[simp] theorem tslice_29 : tslice prog 29 = none := by kernel_rfl
@[simp] theorem tkind_29 : tkind prog 29 = some 4 := by kernel_rfl
@[simp] theorem tint_29 : tint prog 29 = none := by kernel_rfl
@[simp] theorem tbytes_29 : tbytes prog 29 = some 8 := by kernel_rfl
@[simp] theorem tplaces_29 : tplaces prog 29 = none := by kernel_rfl
@[simp] theorem tzero_29 : tzero prog 29 = some Value.nilFunc := by kernel_rfl
@[simp] theorem tptr_29 : tptr prog 29 = false := by kernel_rfl
@[simp] theorem tflat_29 : tflat prog 29 = none := by kernel_rfl
@[simp] theorem tsz_30 : tsz prog 30 = some 1 := by kernel_rfl
@[simp] theorem tagg_30 : tagg prog 30 = some false := by kernel_rfl
@[simp] theorem tcells_30 : tcells prog 30 = [30] := by kernel_rfl
@[simp] theorem tslice_30 : tslice prog 30 = none := by kernel_rfl
@[simp] theorem tkind_30 : tkind prog 30 = some 4 := by kernel_rfl
@[simp] theorem tint_30 : tint prog 30 = none := by kernel_rfl
@[simp] theorem tbytes_30 : tbytes prog 30 = some 8 := by kernel_rfl
@[simp] theorem tplaces_30 : tplaces prog 30 = none := by kernel_rfl
@[simp] theorem tzero_30 : tzero prog 30 = some Value.nilFunc := by kernel_rfl
@[simp] theorem tptr_30 : tptr prog 30 = false := by kernel_rfl
@[simp] theorem tflat_30 : tflat prog 30 = none := by kernel_rfl
@[simp] theorem tsz_31 : tsz prog 31 = some 1 := by kernel_rfl
@[simp] theorem tagg_31 : tagg prog 31 = some false := by kernel_rfl
@[simp] theorem tcells_31 : tcells prog 31 = [31] := by kernel_rfl
@[simp] theorem tslice_31 : tslice prog 31 = none := by kernel_rfl
@[simp] theorem tkind_31 : tkind prog 31 = some 4 := by kernel_rfl
@[simp] theorem tint_31 : tint prog 31 = none := by kernel_rfl
@[simp] theorem tbytes_31 : tbytes prog 31 = some 0 := by kernel_rfl
@[simp] theorem tplaces_31 : tplaces prog 31 = none := by kernel_rfl
@[simp] theorem tzero_31 : tzero prog 31 = some (Value.tuple #[Value.string ⟨#[]⟩, Value.bool false]) := by kernel_rfl
@[simp] theorem tptr_31 : tptr prog 31 = false := by kernel_rfl
@[simp] theorem tflat_31 : tflat prog 31 = none := by kernel_rfl
@[simp] theorem tsz_32 : tsz prog 32 = some 1 := by kernel_rfl
@[simp] theorem tagg_32 : tagg prog 32 = some false := by kernel_rfl
@[simp] theorem tcells_32 : tcells prog 32 = [32] := by kernel_rfl
@[simp] theorem tslice_32 : tslice prog 32 = none := by kernel_rfl
@[simp] theorem tkind_32 : tkind prog 32 = some 4 := by kernel_rfl
@[simp] theorem tint_32 : tint prog 32 = none := by kernel_rfl
@[simp] theorem tbytes_32 : tbytes prog 32 = some 8 := by kernel_rfl
@[simp] theorem tplaces_32 : tplaces prog 32 = none := by kernel_rfl
@[simp] theorem tzero_32 : tzero prog 32 = some Value.nilFunc := by kernel_rfl
@[simp] theorem tptr_32 : tptr prog 32 = false := by kernel_rfl
@[simp] theorem tflat_32 : tflat prog 32 = none := by kernel_rfl
@[simp] theorem tsz_33 : tsz prog 33 = some 1 := by kernel_rfl
@[simp] theorem tagg_33 : tagg prog 33 = some false := by kernel_rfl
@[simp] theorem tcells_33 : tcells prog 33 = [33] := by kernel_rfl
@[simp] theorem tslice_33 : tslice prog 33 = none := by kernel_rfl
@[simp] theorem tkind_33 : tkind prog 33 = some 4 := by kernel_rfl
@[simp] theorem tint_33 : tint prog 33 = none := by kernel_rfl
@[simp] theorem tbytes_33 : tbytes prog 33 = some 0 := by kernel_rfl
@[simp] theorem tplaces_33 : tplaces prog 33 = none := by kernel_rfl
@[simp] theorem tzero_33 : tzero prog 33 = some (Value.tuple #[Value.agg #[Value.int IntKind.i64 0, Value.int IntKind.i64 0, Value.slice none 0 0], Value.slice none 0 0, Value.int IntKind.i64 0]) := by kernel_rfl
@[simp] theorem tptr_33 : tptr prog 33 = false := by kernel_rfl
@[simp] theorem tflat_33 : tflat prog 33 = none := by kernel_rfl
@[simp] theorem tsz_34 : tsz prog 34 = some 1 := by kernel_rfl
@[simp] theorem tagg_34 : tagg prog 34 = some false := by kernel_rfl
@[simp] theorem tcells_34 : tcells prog 34 = [34] := by kernel_rfl
@[simp] theorem tslice_34 : tslice prog 34 = none := by kernel_rfl
@[simp] theorem tkind_34 : tkind prog 34 = some 4 := by kernel_rfl
@[simp] theorem tint_34 : tint prog 34 = none := by kernel_rfl
@[simp] theorem tbytes_34 : tbytes prog 34 = some 8 := by kernel_rfl
@[simp] theorem tplaces_34 : tplaces prog 34 = none := by kernel_rfl
@[simp] theorem tzero_34 : tzero prog 34 = some Value.nilFunc := by kernel_rfl
@[simp] theorem tptr_34 : tptr prog 34 = false := by kernel_rfl
@[simp] theorem tflat_34 : tflat prog 34 = none := by kernel_rfl
@[simp] theorem tsz_35 : tsz prog 35 = some 1 := by kernel_rfl
@[simp] theorem tagg_35 : tagg prog 35 = some false := by kernel_rfl
@[simp] theorem tcells_35 : tcells prog 35 = [35] := by kernel_rfl
@[simp] theorem tslice_35 : tslice prog 35 = none := by kernel_rfl
@[simp] theorem tkind_35 : tkind prog 35 = some 4 := by kernel_rfl
@[simp] theorem tint_35 : tint prog 35 = none := by kernel_rfl
@[simp] theorem tbytes_35 : tbytes prog 35 = some 8 := by kernel_rfl
@[simp] theorem tplaces_35 : tplaces prog 35 = none := by kernel_rfl
@[simp] theorem tzero_35 : tzero prog 35 = some Value.nilFunc := by kernel_rfl
@[simp] theorem tptr_35 : tptr prog 35 = false := by kernel_rfl
@[simp] theorem tflat_35 : tflat prog 35 = none := by kernel_rfl
@[simp] theorem tsz_36 : tsz prog 36 = some 1 := by kernel_rfl
@[simp] theorem tagg_36 : tagg prog 36 = some false := by kernel_rfl
@[simp] theorem tcells_36 : tcells prog 36 = [36] := by kernel_rfl
@[simp] theorem tslice_36 : tslice prog 36 = none := by kernel_rfl
@[simp] theorem tkind_36 : tkind prog 36 = some 4 := by kernel_rfl
@[simp] theorem tint_36 : tint prog 36 = none := by kernel_rfl
@[simp] theorem tbytes_36 : tbytes prog 36 = some 8 := by kernel_rfl
@[simp] theorem tplaces_36 : tplaces prog 36 = none := by kernel_rfl
@[simp] theorem tzero_36 : tzero prog 36 = some Value.nilFunc := by kernel_rfl
@[simp] theorem tptr_36 : tptr prog 36 = false := by kernel_rfl
@[simp] theorem tflat_36 : tflat prog 36 = none := by kernel_rfl
@[simp] theorem tsz_37 : tsz prog 37 = some 1 := by kernel_rfl
@[simp] theorem tagg_37 : tagg prog 37 = some false := by kernel_rfl
@[simp] theorem tcells_37 : tcells prog 37 = [37] := by kernel_rfl
@[simp] theorem tslice_37 : tslice prog 37 = none := by kernel_rfl
@[simp] theorem tkind_37 : tkind prog 37 = some 4 := by kernel_rfl
@[simp] theorem tint_37 : tint prog 37 = none := by kernel_rfl
@[simp] theorem tbytes_37 : tbytes prog 37 = some 8 := by kernel_rfl
@[simp] theorem tplaces_37 : tplaces prog 37 = none := by kernel_rfl
@[simp] theorem tzero_37 : tzero prog 37 = some Value.nilFunc := by kernel_rfl
@[simp] theorem tptr_37 : tptr prog 37 = false := by kernel_rfl
@[simp] theorem tflat_37 : tflat prog 37 = none := by kernel_rfl
@[simp] theorem tsz_38 : tsz prog 38 = some 5 := by kernel_rfl
@[simp] theorem tagg_38 : tagg prog 38 = some true := by kernel_rfl
@[simp] theorem tcells_38 : tcells prog 38 = [3, 9, 3, 3, 4] := by kernel_rfl
@[simp] theorem tslice_38 : tslice prog 38 = none := by kernel_rfl
@[simp] theorem tkind_38 : tkind prog 38 = some 4 := by kernel_rfl
@[simp] theorem tint_38 : tint prog 38 = none := by kernel_rfl
@[simp] theorem tbytes_38 : tbytes prog 38 = some 48 := by kernel_rfl
@[simp] theorem tplaces_38 : tplaces prog 38 = some [(0, 1), (1, 1), (2, 1), (3, 1), (4, 1)] := by kernel_rfl
@[simp] theorem tzero_38 : tzero prog 38 = some (Value.agg #[Value.int IntKind.i64 0, Value.string ⟨#[]⟩, Value.int IntKind.i64 0, Value.int IntKind.i64 0, Value.bool false]) := by kernel_rfl
@[simp] theorem tptr_38 : tptr prog 38 = false := by kernel_rfl
@[simp] theorem tflat_38 : tflat prog 38 = some [2, 0, 2, 2, 1] := by kernel_rfl
@[simp] theorem tfield_38_0 : tfield prog 38 0 = some (0, 1, false) := by kernel_rfl
@[simp] theorem tfield_38_1 : tfield prog 38 1 = some (1, 1, false) := by kernel_rfl
@[simp] theorem tfield_38_2 : tfield prog 38 2 = some (2, 1, false) := by kernel_rfl
@[simp] theorem tfield_38_3 : tfield prog 38 3 = some (3, 1, false) := by kernel_rfl
@[simp] theorem tfield_38_4 : tfield prog 38 4 = some (4, 1, false) := by kernel_rfl
@[simp] theorem tsz_39 : tsz prog 39 = some 5 := by kernel_rfl
@[simp] theorem tagg_39 : tagg prog 39 = some true := by kernel_rfl
@[simp] theorem tcells_39 : tcells prog 39 = [3, 9, 3, 3, 4] := by kernel_rfl
@[simp] theorem tslice_39 : tslice prog 39 = none := by kernel_rfl
@[simp] theorem tkind_39 : tkind prog 39 = some 4 := by kernel_rfl
@[simp] theorem tint_39 : tint prog 39 = none := by kernel_rfl
@[simp] theorem tbytes_39 : tbytes prog 39 = some 48 := by kernel_rfl
@[simp] theorem tplaces_39 : tplaces prog 39 = some [(0, 1), (1, 1), (2, 1), (3, 1), (4, 1)] := by kernel_rfl
@[simp] theorem tzero_39 : tzero prog 39 = some (Value.agg #[Value.int IntKind.i64 0, Value.string ⟨#[]⟩, Value.int IntKind.i64 0, Value.int IntKind.i64 0, Value.bool false]) := by kernel_rfl
@[simp] theorem tptr_39 : tptr prog 39 = false := by kernel_rfl
@[simp] theorem tflat_39 : tflat prog 39 = some [2, 0, 2, 2, 1] := by kernel_rfl
@[simp] theorem tfield_39_0 : tfield prog 39 0 = some (0, 1, false) := by kernel_rfl
@[simp] theorem tfield_39_1 : tfield prog 39 1 = some (1, 1, false) := by kernel_rfl
@[simp] theorem tfield_39_2 : tfield prog 39 2 = some (2, 1, false) := by kernel_rfl
@[simp] theorem tfield_39_3 : tfield prog 39 3 = some (3, 1, false) := by kernel_rfl
@[simp] theorem tfield_39_4 : tfield prog 39 4 = some (4, 1, false) := by kernel_rfl
@[simp] theorem tsz_40 : tsz prog 40 = some 1 := by kernel_rfl
@[simp] theorem tagg_40 : tagg prog 40 = some false := by kernel_rfl
@[simp] theorem tcells_40 : tcells prog 40 = [40] := by kernel_rfl
@[simp] theorem tslice_40 : tslice prog 40 = some 58 := by kernel_rfl
@[simp] theorem tkind_40 : tkind prog 40 = some 3 := by kernel_rfl
@[simp] theorem tint_40 : tint prog 40 = none := by kernel_rfl
@[simp] theorem tbytes_40 : tbytes prog 40 = some 24 := by kernel_rfl
@[simp] theorem tplaces_40 : tplaces prog 40 = none := by kernel_rfl
@[simp] theorem tzero_40 : tzero prog 40 = some (Value.slice none 0 0) := by kernel_rfl
@[simp] theorem tptr_40 : tptr prog 40 = false := by kernel_rfl
@[simp] theorem tflat_40 : tflat prog 40 = none := by kernel_rfl
@[simp] theorem tsz_41 : tsz prog 41 = some 1 := by kernel_rfl
@[simp] theorem tagg_41 : tagg prog 41 = some false := by kernel_rfl
@[simp] theorem tcells_41 : tcells prog 41 = [41] := by kernel_rfl
@[simp] theorem tslice_41 : tslice prog 41 = none := by kernel_rfl
@[simp] theorem tkind_41 : tkind prog 41 = some 4 := by kernel_rfl
@[simp] theorem tint_41 : tint prog 41 = none := by kernel_rfl
@[simp] theorem tbytes_41 : tbytes prog 41 = some 0 := by kernel_rfl
@[simp] theorem tplaces_41 : tplaces prog 41 = none := by kernel_rfl
@[simp] theorem tzero_41 : tzero prog 41 = some (Value.tuple #[Value.slice none 0 0, Value.slice none 0 0, Value.int IntKind.i64 0]) := by kernel_rfl
@[simp] theorem tptr_41 : tptr prog 41 = false := by kernel_rfl
@[simp] theorem tflat_41 : tflat prog 41 = none := by kernel_rfl
@[simp] theorem tsz_42 : tsz prog 42 = some 1 := by kernel_rfl
@[simp] theorem tagg_42 : tagg prog 42 = some false := by kernel_rfl
@[simp] theorem tcells_42 : tcells prog 42 = [42] := by kernel_rfl
@[simp] theorem tslice_42 : tslice prog 42 = none := by kernel_rfl
@[simp] theorem tkind_42 : tkind prog 42 = some 4 := by kernel_rfl
@[simp] theorem tint_42 : tint prog 42 = none := by kernel_rfl
@[simp] theorem tbytes_42 : tbytes prog 42 = some 8 := by kernel_rfl
@[simp] theorem tplaces_42 : tplaces prog 42 = none := by kernel_rfl
@[simp] theorem tzero_42 : tzero prog 42 = some Value.nilFunc := by kernel_rfl
@[simp] theorem tptr_42 : tptr prog 42 = false := by kernel_rfl
@[simp] theorem tflat_42 : tflat prog 42 = none := by kernel_rfl
@[simp] theorem tsz_43 : tsz prog 43 = some 1 := by kernel_rfl
@[simp] theorem tagg_43 : tagg prog 43 = some false := by kernel_rfl
@[simp] theorem tcells_43 : tcells prog 43 = [43] := by kernel_rfl
@[simp] theorem tslice_43 : tslice prog 43 = none := by kernel_rfl
@[simp] theorem tkind_43 : tkind prog 43 = some 4 := by kernel_rfl
@[simp] theorem tint_43 : tint prog 43 = none := by kernel_rfl
@[simp] theorem tbytes_43 : tbytes prog 43 = some 0 := by kernel_rfl
@[simp] theorem tplaces_43 : tplaces prog 43 = none := by kernel_rfl
@[simp] theorem tzero_43 : tzero prog 43 = some (Value.tuple #[Value.agg #[Value.int IntKind.i64 0, Value.int IntKind.i64 0, Value.slice none 0 0], Value.int IntKind.i64 0]) := by kernel_rfl
@[simp] theorem tptr_43 : tptr prog 43 = false := by kernel_rfl
@[simp] theorem tflat_43 : tflat prog 43 = none := by kernel_rfl
@[simp] theorem tsz_44 : tsz prog 44 = some 1 := by kernel_rfl
@[simp] theorem tagg_44 : tagg prog 44 = some false := by kernel_rfl
@[simp] theorem tcells_44 : tcells prog 44 = [44] := by kernel_rfl
@[simp] theorem tslice_44 : tslice prog 44 = none := by kernel_rfl
@[simp] theorem tkind_44 : tkind prog 44 = some 4 := by kernel_rfl
@[simp] theorem tint_44 : tint prog 44 = none := by kernel_rfl
@[simp] theorem tbytes_44 : tbytes prog 44 = some 8 := by kernel_rfl
@[simp] theorem tplaces_44 : tplaces prog 44 = none := by kernel_rfl
@[simp] theorem tzero_44 : tzero prog 44 = some Value.nilFunc := by kernel_rfl
@[simp] theorem tptr_44 : tptr prog 44 = false := by kernel_rfl
@[simp] theorem tflat_44 : tflat prog 44 = none := by kernel_rfl
@[simp] theorem tsz_45 : tsz prog 45 = some 1 := by kernel_rfl
@[simp] theorem tagg_45 : tagg prog 45 = some false := by kernel_rfl
@[simp] theorem tcells_45 : tcells prog 45 = [45] := by kernel_rfl
@[simp] theorem tslice_45 : tslice prog 45 = some 9 := by kernel_rfl
@[simp] theorem tkind_45 : tkind prog 45 = some 3 := by kernel_rfl
@[simp] theorem tint_45 : tint prog 45 = none := by kernel_rfl
@[simp] theorem tbytes_45 : tbytes prog 45 = some 24 := by kernel_rfl
@[simp] theorem tplaces_45 : tplaces prog 45 = none := by kernel_rfl
@[simp] theorem tzero_45 : tzero prog 45 = some (Value.slice none 0 0) := by kernel_rfl
@[simp] theorem tptr_45 : tptr prog 45 = false := by kernel_rfl
@[simp] theorem tflat_45 : tflat prog 45 = none := by kernel_rfl
@[simp] theorem tsz_46 : tsz prog 46 = some 1 := by kernel_rfl
@[simp] theorem tagg_46 : tagg prog 46 = some false := by kernel_rfl
@[simp] theorem tcells_46 : tcells prog 46 = [46] := by kernel_rfl
@[simp] theorem tslice_46 : tslice prog 46 = none := by kernel_rfl
@[simp] theorem tkind_46 : tkind prog 46 = some 5 := by kernel_rfl
@[simp] theorem tint_46 : tint prog 46 = none := by kernel_rfl
@[simp] theorem tbytes_46 : tbytes prog 46 = some 8 := by kernel_rfl
@[simp] theorem tplaces_46 : tplaces prog 46 = none := by kernel_rfl
@[simp] theorem tzero_46 : tzero prog 46 = some (Value.pointer none) := by kernel_rfl
@[simp] theorem tptr_46 : tptr prog 46 = false := by kernel_rfl
@[simp] theorem tflat_46 : tflat prog 46 = none := by kernel_rfl
@[simp] theorem tsz_47 : tsz prog 47 = some 6 := by kernel_rfl
@[simp] theorem tagg_47 : tagg prog 47 = some true := by kernel_rfl
@[simp] theorem tcells_47 : tcells prog 47 = [9, 3, 3, 25, 40, 3] := by kernel_rfl
@[simp] theorem tslice_47 : tslice prog 47 = none := by kernel_rfl
@[simp] theorem tkind_47 : tkind prog 47 = some 4 := by kernel_rfl
@[simp] theorem tint_47 : tint prog 47 = none := by kernel_rfl
@[simp] theorem tbytes_47 : tbytes prog 47 = some 88 := by kernel_rfl
@[simp] theorem tplaces_47 : tplaces prog 47 = some [(0, 1), (1, 1), (2, 1), (3, 1), (4, 1), (5, 1)] := by kernel_rfl
@[simp] theorem tzero_47 : tzero prog 47 = some (Value.agg #[Value.string ⟨#[]⟩, Value.int IntKind.i64 0, Value.int IntKind.i64 0, Value.slice none 0 0, Value.slice none 0 0, Value.int IntKind.i64 0]) := by kernel_rfl
@[simp] theorem tptr_47 : tptr prog 47 = false := by kernel_rfl
@[simp] theorem tflat_47 : tflat prog 47 = some [0, 2, 2, 3, 3, 2] := by kernel_rfl
@[simp] theorem tfield_47_0 : tfield prog 47 0 = some (0, 1, false) := by kernel_rfl
@[simp] theorem tfield_47_1 : tfield prog 47 1 = some (1, 1, false) := by kernel_rfl
@[simp] theorem tfield_47_2 : tfield prog 47 2 = some (2, 1, false) := by kernel_rfl
@[simp] theorem tfield_47_3 : tfield prog 47 3 = some (3, 1, false) := by kernel_rfl
@[simp] theorem tfield_47_4 : tfield prog 47 4 = some (4, 1, false) := by kernel_rfl
@[simp] theorem tfield_47_5 : tfield prog 47 5 = some (5, 1, false) := by kernel_rfl
@[simp] theorem tsz_48 : tsz prog 48 = some 6 := by kernel_rfl
@[simp] theorem tagg_48 : tagg prog 48 = some true := by kernel_rfl
@[simp] theorem tcells_48 : tcells prog 48 = [9, 3, 3, 25, 40, 3] := by kernel_rfl
@[simp] theorem tslice_48 : tslice prog 48 = none := by kernel_rfl
@[simp] theorem tkind_48 : tkind prog 48 = some 4 := by kernel_rfl
@[simp] theorem tint_48 : tint prog 48 = none := by kernel_rfl
@[simp] theorem tbytes_48 : tbytes prog 48 = some 88 := by kernel_rfl
@[simp] theorem tplaces_48 : tplaces prog 48 = some [(0, 1), (1, 1), (2, 1), (3, 1), (4, 1), (5, 1)] := by kernel_rfl
@[simp] theorem tzero_48 : tzero prog 48 = some (Value.agg #[Value.string ⟨#[]⟩, Value.int IntKind.i64 0, Value.int IntKind.i64 0, Value.slice none 0 0, Value.slice none 0 0, Value.int IntKind.i64 0]) := by kernel_rfl
@[simp] theorem tptr_48 : tptr prog 48 = true := by kernel_rfl
@[simp] theorem tflat_48 : tflat prog 48 = some [0, 2, 2, 3, 3, 2] := by kernel_rfl
@[simp] theorem tfield_48_0 : tfield prog 48 0 = some (0, 1, false) := by kernel_rfl
@[simp] theorem tfield_48_1 : tfield prog 48 1 = some (1, 1, false) := by kernel_rfl
@[simp] theorem tfield_48_2 : tfield prog 48 2 = some (2, 1, false) := by kernel_rfl
@[simp] theorem tfield_48_3 : tfield prog 48 3 = some (3, 1, false) := by kernel_rfl
@[simp] theorem tfield_48_4 : tfield prog 48 4 = some (4, 1, false) := by kernel_rfl
@[simp] theorem tfield_48_5 : tfield prog 48 5 = some (5, 1, false) := by kernel_rfl
@[simp] theorem tsz_49 : tsz prog 49 = some 1 := by kernel_rfl
@[simp] theorem tagg_49 : tagg prog 49 = some false := by kernel_rfl
@[simp] theorem tcells_49 : tcells prog 49 = [49] := by kernel_rfl
@[simp] theorem tslice_49 : tslice prog 49 = none := by kernel_rfl
@[simp] theorem tkind_49 : tkind prog 49 = some 4 := by kernel_rfl
@[simp] theorem tint_49 : tint prog 49 = none := by kernel_rfl
@[simp] theorem tbytes_49 : tbytes prog 49 = some 8 := by kernel_rfl
@[simp] theorem tplaces_49 : tplaces prog 49 = none := by kernel_rfl
@[simp] theorem tzero_49 : tzero prog 49 = some Value.nilFunc := by kernel_rfl
@[simp] theorem tptr_49 : tptr prog 49 = false := by kernel_rfl
@[simp] theorem tflat_49 : tflat prog 49 = none := by kernel_rfl
@[simp] theorem tsz_50 : tsz prog 50 = some 1 := by kernel_rfl
@[simp] theorem tagg_50 : tagg prog 50 = some false := by kernel_rfl
@[simp] theorem tcells_50 : tcells prog 50 = [50] := by kernel_rfl
@[simp] theorem tslice_50 : tslice prog 50 = none := by kernel_rfl
@[simp] theorem tkind_50 : tkind prog 50 = some 4 := by kernel_rfl
@[simp] theorem tint_50 : tint prog 50 = none := by kernel_rfl
@[simp] theorem tbytes_50 : tbytes prog 50 = some 8 := by kernel_rfl
@[simp] theorem tplaces_50 : tplaces prog 50 = none := by kernel_rfl
@[simp] theorem tzero_50 : tzero prog 50 = some Value.nilFunc := by kernel_rfl
@[simp] theorem tptr_50 : tptr prog 50 = false := by kernel_rfl
@[simp] theorem tflat_50 : tflat prog 50 = none := by kernel_rfl
@[simp] theorem tsz_51 : tsz prog 51 = some 1 := by kernel_rfl
@[simp] theorem tagg_51 : tagg prog 51 = some false := by kernel_rfl
@[simp] theorem tcells_51 : tcells prog 51 = [51] := by kernel_rfl
@[simp] theorem tslice_51 : tslice prog 51 = none := by kernel_rfl
@[simp] theorem tkind_51 : tkind prog 51 = some 4 := by kernel_rfl
@[simp] theorem tint_51 : tint prog 51 = none := by kernel_rfl
@[simp] theorem tbytes_51 : tbytes prog 51 = some 8 := by kernel_rfl
@[simp] theorem tplaces_51 : tplaces prog 51 = none := by kernel_rfl
@[simp] theorem tzero_51 : tzero prog 51 = some Value.nilFunc := by kernel_rfl
@[simp] theorem tptr_51 : tptr prog 51 = false := by kernel_rfl
@[simp] theorem tflat_51 : tflat prog 51 = none := by kernel_rfl
@[simp] theorem tsz_52 : tsz prog 52 = some 1 := by kernel_rfl
@[simp] theorem tagg_52 : tagg prog 52 = some false := by kernel_rfl
@[simp] theorem tcells_52 : tcells prog 52 = [52] := by kernel_rfl
@[simp] theorem tslice_52 : tslice prog 52 = none := by kernel_rfl
@[simp] theorem tkind_52 : tkind prog 52 = some 5 := by kernel_rfl
@[simp] theorem tint_52 : tint prog 52 = none := by kernel_rfl
@[simp] theorem tbytes_52 : tbytes prog 52 = some 8 := by kernel_rfl
@[simp] theorem tplaces_52 : tplaces prog 52 = none := by kernel_rfl
@[simp] theorem tzero_52 : tzero prog 52 = some (Value.pointer none) := by kernel_rfl
@[simp] theorem tptr_52 : tptr prog 52 = false := by kernel_rfl
@[simp] theorem tflat_52 : tflat prog 52 = none := by kernel_rfl
@[simp] theorem tsz_53 : tsz prog 53 = some 4 := by kernel_rfl
@[simp] theorem tagg_53 : tagg prog 53 = some true := by kernel_rfl
@[simp] theorem tcells_53 : tcells prog 53 = [25, 3, 3, 3] := by kernel_rfl
@[simp] theorem tslice_53 : tslice prog 53 = none := by kernel_rfl
@[simp] theorem tkind_53 : tkind prog 53 = some 4 := by kernel_rfl
@[simp] theorem tint_53 : tint prog 53 = none := by kernel_rfl
@[simp] theorem tbytes_53 : tbytes prog 53 = some 48 := by kernel_rfl
@[simp] theorem tplaces_53 : tplaces prog 53 = some [(0, 1), (1, 1), (2, 1), (3, 1)] := by kernel_rfl
@[simp] theorem tzero_53 : tzero prog 53 = some (Value.agg #[Value.slice none 0 0, Value.int IntKind.i64 0, Value.int IntKind.i64 0, Value.int IntKind.i64 0]) := by kernel_rfl
@[simp] theorem tptr_53 : tptr prog 53 = false := by kernel_rfl
@[simp] theorem tflat_53 : tflat prog 53 = some [3, 2, 2, 2] := by kernel_rfl
@[simp] theorem tfield_53_0 : tfield prog 53 0 = some (0, 1, false) := by kernel_rfl
@[simp] theorem tfield_53_1 : tfield prog 53 1 = some (1, 1, false) := by kernel_rfl
@[simp] theorem tfield_53_2 : tfield prog 53 2 = some (2, 1, false) := by kernel_rfl
@[simp] theorem tfield_53_3 : tfield prog 53 3 = some (3, 1, false) := by kernel_rfl
@[simp] theorem tsz_54 : tsz prog 54 = some 4 := by kernel_rfl
@[simp] theorem tagg_54 : tagg prog 54 = some true := by kernel_rfl
@[simp] theorem tcells_54 : tcells prog 54 = [25, 3, 3, 3] := by kernel_rfl
@[simp] theorem tslice_54 : tslice prog 54 = none := by kernel_rfl
@[simp] theorem tkind_54 : tkind prog 54 = some 4 := by kernel_rfl
@[simp] theorem tint_54 : tint prog 54 = none := by kernel_rfl
@[simp] theorem tbytes_54 : tbytes prog 54 = some 48 := by kernel_rfl
@[simp] theorem tplaces_54 : tplaces prog 54 = some [(0, 1), (1, 1), (2, 1), (3, 1)] := by kernel_rfl
@[simp] theorem tzero_54 : tzero prog 54 = some (Value.agg #[Value.slice none 0 0, Value.int IntKind.i64 0, Value.int IntKind.i64 0, Value.int IntKind.i64 0]) := by kernel_rfl
@[simp] theorem tptr_54 : tptr prog 54 = true := by kernel_rfl
@[simp] theorem tflat_54 : tflat prog 54 = some [3, 2, 2, 2] := by kernel_rfl
@[simp] theorem tfield_54_0 : tfield prog 54 0 = some (0, 1, false) := by kernel_rfl
@[simp] theorem tfield_54_1 : tfield prog 54 1 = some (1, 1, false) := by kernel_rfl
@[simp] theorem tfield_54_2 : tfield prog 54 2 = some (2, 1, false) := by kernel_rfl
@[simp] theorem tfield_54_3 : tfield prog 54 3 = some (3, 1, false) := by kernel_rfl
@[simp] theorem tsz_55 : tsz prog 55 = some 1 := by kernel_rfl
@[simp] theorem tagg_55 : tagg prog 55 = some false := by kernel_rfl
@[simp] theorem tcells_55 : tcells prog 55 = [55] := by kernel_rfl
@[simp] theorem tslice_55 : tslice prog 55 = none := by kernel_rfl
@[simp] theorem tkind_55 : tkind prog 55 = some 4 := by kernel_rfl
@[simp] theorem tint_55 : tint prog 55 = none := by kernel_rfl
@[simp] theorem tbytes_55 : tbytes prog 55 = some 8 := by kernel_rfl
@[simp] theorem tplaces_55 : tplaces prog 55 = none := by kernel_rfl
@[simp] theorem tzero_55 : tzero prog 55 = some Value.nilFunc := by kernel_rfl
@[simp] theorem tptr_55 : tptr prog 55 = false := by kernel_rfl
@[simp] theorem tflat_55 : tflat prog 55 = none := by kernel_rfl
@[simp] theorem tsz_56 : tsz prog 56 = some 1 := by kernel_rfl
@[simp] theorem tagg_56 : tagg prog 56 = some false := by kernel_rfl
@[simp] theorem tcells_56 : tcells prog 56 = [56] := by kernel_rfl
@[simp] theorem tslice_56 : tslice prog 56 = none := by kernel_rfl
@[simp] theorem tkind_56 : tkind prog 56 = some 4 := by kernel_rfl
@[simp] theorem tint_56 : tint prog 56 = none := by kernel_rfl
@[simp] theorem tbytes_56 : tbytes prog 56 = some 8 := by kernel_rfl
@[simp] theorem tplaces_56 : tplaces prog 56 = none := by kernel_rfl
@[simp] theorem tzero_56 : tzero prog 56 = some Value.nilFunc := by kernel_rfl
@[simp] theorem tptr_56 : tptr prog 56 = false := by kernel_rfl
@[simp] theorem tflat_56 : tflat prog 56 = none := by kernel_rfl
@[simp] theorem tsz_57 : tsz prog 57 = some 4 := by kernel_rfl
@[simp] theorem tagg_57 : tagg prog 57 = some true := by kernel_rfl
@[simp] theorem tcells_57 : tcells prog 57 = [9, 3, 3, 3] := by kernel_rfl
@[simp] theorem tslice_57 : tslice prog 57 = none := by kernel_rfl
@[simp] theorem tkind_57 : tkind prog 57 = some 4 := by kernel_rfl
@[simp] theorem tint_57 : tint prog 57 = none := by kernel_rfl
@[simp] theorem tbytes_57 : tbytes prog 57 = some 40 := by kernel_rfl
@[simp] theorem tplaces_57 : tplaces prog 57 = some [(0, 1), (1, 1), (2, 1), (3, 1)] := by kernel_rfl
@[simp] theorem tzero_57 : tzero prog 57 = some (Value.agg #[Value.string ⟨#[]⟩, Value.int IntKind.i64 0, Value.int IntKind.i64 0, Value.int IntKind.i64 0]) := by kernel_rfl
@[simp] theorem tptr_57 : tptr prog 57 = false := by kernel_rfl
@[simp] theorem tflat_57 : tflat prog 57 = some [0, 2, 2, 2] := by kernel_rfl
@[simp] theorem tfield_57_0 : tfield prog 57 0 = some (0, 1, false) := by kernel_rfl
@[simp] theorem tfield_57_1 : tfield prog 57 1 = some (1, 1, false) := by kernel_rfl
@[simp] theorem tfield_57_2 : tfield prog 57 2 = some (2, 1, false) := by kernel_rfl
@[simp] theorem tfield_57_3 : tfield prog 57 3 = some (3, 1, false) := by kernel_rfl
@[simp] theorem tsz_58 : tsz prog 58 = some 4 := by kernel_rfl
@[simp] theorem tagg_58 : tagg prog 58 = some true := by kernel_rfl
@[simp] theorem tcells_58 : tcells prog 58 = [9, 3, 3, 3] := by kernel_rfl
@[simp] theorem tslice_58 : tslice prog 58 = none := by kernel_rfl
@[simp] theorem tkind_58 : tkind prog 58 = some 4 := by kernel_rfl
@[simp] theorem tint_58 : tint prog 58 = none := by kernel_rfl
@[simp] theorem tbytes_58 : tbytes prog 58 = some 40 := by kernel_rfl
@[simp] theorem tplaces_58 : tplaces prog 58 = some [(0, 1), (1, 1), (2, 1), (3, 1)] := by kernel_rfl
@[simp] theorem tzero_58 : tzero prog 58 = some (Value.agg #[Value.string ⟨#[]⟩, Value.int IntKind.i64 0, Value.int IntKind.i64 0, Value.int IntKind.i64 0]) := by kernel_rfl
@[simp] theorem tptr_58 : tptr prog 58 = false := by kernel_rfl
@[simp] theorem tflat_58 : tflat prog 58 = some [0, 2, 2, 2] := by kernel_rfl
@[simp] theorem tfield_58_0 : tfield prog 58 0 = some (0, 1, false) := by kernel_rfl
@[simp] theorem tfield_58_1 : tfield prog 58 1 = some (1, 1, false) := by kernel_rfl
@[simp] theorem tfield_58_2 : tfield prog 58 2 = some (2, 1, false) := by kernel_rfl
@[simp] theorem tfield_58_3 : tfield prog 58 3 = some (3, 1, false) := by kernel_rfl
@[simp] theorem tsz_59 : tsz prog 59 = some 1 := by kernel_rfl
@[simp] theorem tagg_59 : tagg prog 59 = some false := by kernel_rfl
@[simp] theorem tcells_59 : tcells prog 59 = [59] := by kernel_rfl
@[simp] theorem tslice_59 : tslice prog 59 = none := by kernel_rfl
@[simp] theorem tkind_59 : tkind prog 59 = some 4 := by kernel_rfl
@[simp] theorem tint_59 : tint prog 59 = none := by kernel_rfl
@[simp] theorem tbytes_59 : tbytes prog 59 = some 8 := by kernel_rfl
@[simp] theorem tplaces_59 : tplaces prog 59 = none := by kernel_rfl
@[simp] theorem tzero_59 : tzero prog 59 = some Value.nilFunc := by kernel_rfl
@[simp] theorem tptr_59 : tptr prog 59 = false := by kernel_rfl
@[simp] theorem tflat_59 : tflat prog 59 = none := by kernel_rfl
@[simp] theorem tsz_60 : tsz prog 60 = some 1 := by kernel_rfl
@[simp] theorem tagg_60 : tagg prog 60 = some false := by kernel_rfl
@[simp] theorem tcells_60 : tcells prog 60 = [60] := by kernel_rfl
@[simp] theorem tslice_60 : tslice prog 60 = none := by kernel_rfl
@[simp] theorem tkind_60 : tkind prog 60 = some 4 := by kernel_rfl
@[simp] theorem tint_60 : tint prog 60 = none := by kernel_rfl
@[simp] theorem tbytes_60 : tbytes prog 60 = some 8 := by kernel_rfl
@[simp] theorem tplaces_60 : tplaces prog 60 = none := by kernel_rfl
@[simp] theorem tzero_60 : tzero prog 60 = some Value.nilFunc := by kernel_rfl
@[simp] theorem tptr_60 : tptr prog 60 = false := by kernel_rfl
@[simp] theorem tflat_60 : tflat prog 60 = none := by kernel_rfl
@[simp] theorem tsz_61 : tsz prog 61 = some 1 := by kernel_rfl
@[simp] theorem tagg_61 : tagg prog 61 = some false := by kernel_rfl
@[simp] theorem tcells_61 : tcells prog 61 = [61] := by kernel_rfl
@[simp] theorem tslice_61 : tslice prog 61 = none := by kernel_rfl
@[simp] theorem tkind_61 : tkind prog 61 = some 4 := by kernel_rfl
@[simp] theorem tint_61 : tint prog 61 = none := by kernel_rfl
@[simp] theorem tbytes_61 : tbytes prog 61 = some 8 := by kernel_rfl
@[simp] theorem tplaces_61 : tplaces prog 61 = none := by kernel_rfl
@[simp] theorem tzero_61 : tzero prog 61 = some Value.nilFunc := by kernel_rfl
@[simp] theorem tptr_61 : tptr prog 61 = false := by kernel_rfl
@[simp] theorem tflat_61 : tflat prog 61 = none := by kernel_rfl
@[simp] theorem tsz_62 : tsz prog 62 = some 1 := by kernel_rfl
@[simp] theorem tagg_62 : tagg prog 62 = some false := by kernel_rfl
@[simp] theorem tcells_62 : tcells prog 62 = [62] := by kernel_rfl
@[simp] theorem tslice_62 : tslice prog 62 = none := by kernel_rfl
@[simp] theorem tkind_62 : tkind prog 62 = some 4 := by kernel_rfl
@[simp] theorem tint_62 : tint prog 62 = none := by kernel_rfl
@[simp] theorem tbytes_62 : tbytes prog 62 = some 0 := by kernel_rfl
@[simp] theorem tplaces_62 : tplaces prog 62 = none := by kernel_rfl
@[simp] theorem tzero_62 : tzero prog 62 = some (Value.tuple #[Value.int IntKind.i32 0, Value.int IntKind.i64 0]) := by kernel_rfl
@[simp] theorem tptr_62 : tptr prog 62 = false := by kernel_rfl
@[simp] theorem tflat_62 : tflat prog 62 = none := by kernel_rfl
@[simp] theorem tsz_63 : tsz prog 63 = some 1 := by kernel_rfl
@[simp] theorem tagg_63 : tagg prog 63 = some false := by kernel_rfl
@[simp] theorem tcells_63 : tcells prog 63 = [63] := by kernel_rfl
@[simp] theorem tslice_63 : tslice prog 63 = none := by kernel_rfl
@[simp] theorem tkind_63 : tkind prog 63 = some 4 := by kernel_rfl
@[simp] theorem tint_63 : tint prog 63 = none := by kernel_rfl
@[simp] theorem tbytes_63 : tbytes prog 63 = some 8 := by kernel_rfl
@[simp] theorem tplaces_63 : tplaces prog 63 = none := by kernel_rfl
@[simp] theorem tzero_63 : tzero prog 63 = some Value.nilFunc := by kernel_rfl
@[simp] theorem tptr_63 : tptr prog 63 = false := by kernel_rfl
@[simp] theorem tflat_63 : tflat prog 63 = none := by kernel_rfl
@[simp] theorem tsz_64 : tsz prog 64 = some 1 := by kernel_rfl
@[simp] theorem tagg_64 : tagg prog 64 = some false := by kernel_rfl
@[simp] theorem tcells_64 : tcells prog 64 = [64] := by kernel_rfl
@[simp] theorem tslice_64 : tslice prog 64 = none := by kernel_rfl
@[simp] theorem tkind_64 : tkind prog 64 = some 4 := by kernel_rfl
@[simp] theorem tint_64 : tint prog 64 = none := by kernel_rfl
@[simp] theorem tbytes_64 : tbytes prog 64 = some 8 := by kernel_rfl
@[simp] theorem tplaces_64 : tplaces prog 64 = none := by kernel_rfl
@[simp] theorem tzero_64 : tzero prog 64 = some Value.nilFunc := by kernel_rfl
@[simp] theorem tptr_64 : tptr prog 64 = false := by kernel_rfl
@[simp] theorem tflat_64 : tflat prog 64 = none := by kernel_rfl
@[simp] theorem tsz_65 : tsz prog 65 = some 1 := by kernel_rfl
@[simp] theorem tagg_65 : tagg prog 65 = some false := by kernel_rfl
@[simp] theorem tcells_65 : tcells prog 65 = [65] := by kernel_rfl
@[simp] theorem tslice_65 : tslice prog 65 = none := by kernel_rfl
@[simp] theorem tkind_65 : tkind prog 65 = some 4 := by kernel_rfl
@[simp] theorem tint_65 : tint prog 65 = none := by kernel_rfl
@[simp] theorem tbytes_65 : tbytes prog 65 = some 8 := by kernel_rfl
@[simp] theorem tplaces_65 : tplaces prog 65 = none := by kernel_rfl
@[simp] theorem tzero_65 : tzero prog 65 = some Value.nilFunc := by kernel_rfl
@[simp] theorem tptr_65 : tptr prog 65 = false := by kernel_rfl
@[simp] theorem tflat_65 : tflat prog 65 = none := by kernel_rfl
@[simp] theorem tsz_66 : tsz prog 66 = some 1 := by kernel_rfl
@[simp] theorem tagg_66 : tagg prog 66 = some false := by kernel_rfl
@[simp] theorem tcells_66 : tcells prog 66 = [66] := by kernel_rfl
@[simp] theorem tslice_66 : tslice prog 66 = none := by kernel_rfl
@[simp] theorem tkind_66 : tkind prog 66 = some 4 := by kernel_rfl
@[simp] theorem tint_66 : tint prog 66 = none := by kernel_rfl
@[simp] theorem tbytes_66 : tbytes prog 66 = some 8 := by kernel_rfl
@[simp] theorem tplaces_66 : tplaces prog 66 = none := by kernel_rfl
@[simp] theorem tzero_66 : tzero prog 66 = some Value.nilFunc := by kernel_rfl
@[simp] theorem tptr_66 : tptr prog 66 = false := by kernel_rfl
@[simp] theorem tflat_66 : tflat prog 66 = none := by kernel_rfl
@[simp] theorem tsz_67 : tsz prog 67 = some 1 := by kernel_rfl
@[simp] theorem tagg_67 : tagg prog 67 = some false := by kernel_rfl
@[simp] theorem tcells_67 : tcells prog 67 = [67] := by kernel_rfl
@[simp] theorem tslice_67 : tslice prog 67 = none := by kernel_rfl
@[simp] theorem tkind_67 : tkind prog 67 = some 4 := by kernel_rfl
@[simp] theorem tint_67 : tint prog 67 = none := by kernel_rfl
@[simp] theorem tbytes_67 : tbytes prog 67 = some 8 := by kernel_rfl
@[simp] theorem tplaces_67 : tplaces prog 67 = none := by kernel_rfl
@[simp] theorem tzero_67 : tzero prog 67 = some Value.nilFunc := by kernel_rfl
@[simp] theorem tptr_67 : tptr prog 67 = false := by kernel_rfl
@[simp] theorem tflat_67 : tflat prog 67 = none := by kernel_rfl
@[simp] theorem tsz_68 : tsz prog 68 = some 1 := by kernel_rfl
@[simp] theorem tagg_68 : tagg prog 68 = some false := by kernel_rfl
@[simp] theorem tcells_68 : tcells prog 68 = [68] := by kernel_rfl
@[simp] theorem tslice_68 : tslice prog 68 = none := by kernel_rfl
@[simp] theorem tkind_68 : tkind prog 68 = some 4 := by kernel_rfl
@[simp] theorem tint_68 : tint prog 68 = none := by kernel_rfl
@[simp] theorem tbytes_68 : tbytes prog 68 = some 8 := by kernel_rfl
@[simp] theorem tplaces_68 : tplaces prog 68 = none := by kernel_rfl
@[simp] theorem tzero_68 : tzero prog 68 = some Value.nilFunc := by kernel_rfl
@[simp] theorem tptr_68 : tptr prog 68 = false := by kernel_rfl
@[simp] theorem tflat_68 : tflat prog 68 = none := by kernel_rfl
@[simp] theorem tsz_69 : tsz prog 69 = some 1 := by kernel_rfl
@[simp] theorem tagg_69 : tagg prog 69 = some false := by kernel_rfl
@[simp] theorem tcells_69 : tcells prog 69 = [69] := by kernel_rfl
@[simp] theorem tslice_69 : tslice prog 69 = none := by kernel_rfl
@[simp] theorem tkind_69 : tkind prog 69 = some 4 := by kernel_rfl
@[simp] theorem tint_69 : tint prog 69 = none := by kernel_rfl
@[simp] theorem tbytes_69 : tbytes prog 69 = some 8 := by kernel_rfl
@[simp] theorem tplaces_69 : tplaces prog 69 = none := by kernel_rfl
@[simp] theorem tzero_69 : tzero prog 69 = some Value.nilFunc := by kernel_rfl
@[simp] theorem tptr_69 : tptr prog 69 = false := by kernel_rfl
@[simp] theorem tflat_69 : tflat prog 69 = none := by kernel_rfl
@[simp] theorem tsz_70 : tsz prog 70 = some 1 := by kernel_rfl
@[simp] theorem tagg_70 : tagg prog 70 = some false := by kernel_rfl
@[simp] theorem tcells_70 : tcells prog 70 = [70] := by kernel_rfl
@[simp] theorem tslice_70 : tslice prog 70 = none := by kernel_rfl
@[simp] theorem tkind_70 : tkind prog 70 = some 4 := by kernel_rfl
@[simp] theorem tint_70 : tint prog 70 = none := by kernel_rfl
@[simp] theorem tbytes_70 : tbytes prog 70 = some 0 := by kernel_rfl
@[simp] theorem tplaces_70 : tplaces prog 70 = none := by kernel_rfl
@[simp] theorem tzero_70 : tzero prog 70 = some (Value.tuple #[Value.string ⟨#[]⟩, Value.string ⟨#[]⟩, Value.bool false]) := by kernel_rfl
@[simp] theorem tptr_70 : tptr prog 70 = false := by kernel_rfl
@[simp] theorem tflat_70 : tflat prog 70 = none := by kernel_rfl
@[simp] theorem tsz_71 : tsz prog 71 = some 1 := by kernel_rfl
@[simp] theorem tagg_71 : tagg prog 71 = some false := by kernel_rfl
@[simp] theorem tcells_71 : tcells prog 71 = [71] := by kernel_rfl
@[simp] theorem tslice_71 : tslice prog 71 = none := by kernel_rfl
@[simp] theorem tkind_71 : tkind prog 71 = some 4 := by kernel_rfl
@[simp] theorem tint_71 : tint prog 71 = none := by kernel_rfl
@[simp] theorem tbytes_71 : tbytes prog 71 = some 8 := by kernel_rfl
@[simp] theorem tplaces_71 : tplaces prog 71 = none := by kernel_rfl
@[simp] theorem tzero_71 : tzero prog 71 = some Value.nilFunc := by kernel_rfl
@[simp] theorem tptr_71 : tptr prog 71 = false := by kernel_rfl
@[simp] theorem tflat_71 : tflat prog 71 = none := by kernel_rfl
@[simp] theorem tsz_72 : tsz prog 72 = some 1 := by kernel_rfl
@[simp] theorem tagg_72 : tagg prog 72 = some false := by kernel_rfl
@[simp] theorem tcells_72 : tcells prog 72 = [72] := by kernel_rfl
@[simp] theorem tslice_72 : tslice prog 72 = none := by kernel_rfl
@[simp] theorem tkind_72 : tkind prog 72 = some 4 := by kernel_rfl
@[simp] theorem tint_72 : tint prog 72 = none := by kernel_rfl
@[simp] theorem tbytes_72 : tbytes prog 72 = some 8 := by kernel_rfl
@[simp] theorem tplaces_72 : tplaces prog 72 = none := by kernel_rfl
@[simp] theorem tzero_72 : tzero prog 72 = some Value.nilFunc := by kernel_rfl
@[simp] theorem tptr_72 : tptr prog 72 = false := by kernel_rfl
@[simp] theorem tflat_72 : tflat prog 72 = none := by kernel_rfl
@[simp] theorem tsz_73 : tsz prog 73 = some 1 := by kernel_rfl
@[simp] theorem tagg_73 : tagg prog 73 = some false := by kernel_rfl
@[simp] theorem tcells_73 : tcells prog 73 = [73] := by kernel_rfl
@[simp] theorem tslice_73 : tslice prog 73 = none := by kernel_rfl
@[simp] theorem tkind_73 : tkind prog 73 = some 4 := by kernel_rfl
@[simp] theorem tint_73 : tint prog 73 = none := by kernel_rfl
@[simp] theorem tbytes_73 : tbytes prog 73 = some 8 := by kernel_rfl
@[simp] theorem tplaces_73 : tplaces prog 73 = none := by kernel_rfl
@[simp] theorem tzero_73 : tzero prog 73 = some Value.nilFunc := by kernel_rfl
@[simp] theorem tptr_73 : tptr prog 73 = false := by kernel_rfl
@[simp] theorem tflat_73 : tflat prog 73 = none := by kernel_rfl
@[simp] theorem tsz_74 : tsz prog 74 = some 1 := by kernel_rfl
@[simp] theorem tagg_74 : tagg prog 74 = some false := by kernel_rfl
@[simp] theorem tcells_74 : tcells prog 74 = [74] := by kernel_rfl
@[simp] theorem tslice_74 : tslice prog 74 = none := by kernel_rfl
@[simp] theorem tkind_74 : tkind prog 74 = some 4 := by kernel_rfl
@[simp] theorem tint_74 : tint prog 74 = none := by kernel_rfl
@[simp] theorem tbytes_74 : tbytes prog 74 = some 8 := by kernel_rfl
@[simp] theorem tplaces_74 : tplaces prog 74 = none := by kernel_rfl
@[simp] theorem tzero_74 : tzero prog 74 = some Value.nilFunc := by kernel_rfl
@[simp] theorem tptr_74 : tptr prog 74 = false := by kernel_rfl
@[simp] theorem tflat_74 : tflat prog 74 = none := by kernel_rfl
@[simp] theorem tsz_75 : tsz prog 75 = some 1 := by kernel_rfl
@[simp] theorem tagg_75 : tagg prog 75 = some false := by kernel_rfl
@[simp] theorem tcells_75 : tcells prog 75 = [75] := by kernel_rfl
@[simp] theorem tslice_75 : tslice prog 75 = none := by kernel_rfl
@[simp] theorem tkind_75 : tkind prog 75 = some 4 := by kernel_rfl
@[simp] theorem tint_75 : tint prog 75 = none := by kernel_rfl
@[simp] theorem tbytes_75 : tbytes prog 75 = some 8 := by kernel_rfl
@[simp] theorem tplaces_75 : tplaces prog 75 = none := by kernel_rfl
@[simp] theorem tzero_75 : tzero prog 75 = some Value.nilFunc := by kernel_rfl
@[simp] theorem tptr_75 : tptr prog 75 = false := by kernel_rfl
@[simp] theorem tflat_75 : tflat prog 75 = none := by kernel_rfl
@[simp] theorem tsz_76 : tsz prog 76 = some 256 := by kernel_rfl
@[simp] theorem tagg_76 : tagg prog 76 = some true := by kernel_rfl
@[simp] theorem tcells_76 : tcells prog 76 = [76] := by kernel_rfl
@[simp] theorem tslice_76 : tslice prog 76 = none := by kernel_rfl
@[simp] theorem tkind_76 : tkind prog 76 = some 4 := by kernel_rfl
@[simp] theorem tint_76 : tint prog 76 = none := by kernel_rfl
@[simp] theorem tbytes_76 : tbytes prog 76 = some 256 := by kernel_rfl
@[simp] theorem tplaces_76 : tplaces prog 76 = none := by kernel_rfl
@[simp] theorem tzero_76 : tzero prog 76 = some (Value.agg #[Value.int IntKind.u8 0, Value.int IntKind.u8 0, Value.int IntKind.u8 0, Value.int IntKind.u8 0, Value.int IntKind.u8 0, Value.int IntKind.u8 0, Value.int IntKind.u8 0, Value.int IntKind.u8 0, Value.int IntKind.u8 0, Value.int IntKind.u8 0, Value.int IntKind.u8 0, Value.int IntKind.u8 0, Value.int IntKind.u8 0, Value.int IntKind.u8 0, Value.int IntKind.u8 0, Value.int IntKind.u8 0, Value.int IntKind.u8 0, Value.int IntKind.u8 0, Value.int IntKind.u8 0, Value.int IntKind.u8 0, Value.int IntKind.u8 0, Value.int IntKind.u8 0, Value.int IntKind.u8 0, Value.int IntKind.u8 0, Value.int IntKind.u8 0, Value.int IntKind.u8 0, Value.int IntKind.u8 0, Value.int IntKind.u8 0, Value.int IntKind.u8 0, Value.int IntKind.u8 0, Value.int IntKind.u8 0, Value.int IntKind.u8 0, Value.int IntKind.u8 0, Value.int IntKind.u8 0, Value.int IntKind.u8 0, Value.int IntKind.u8 0, Value.int IntKind.u8 0, Value.int IntKind.u8 0, Value.int IntKind.u8 0, Value.int IntKind.u8 0, Value.int IntKind.u8 0, Value.int IntKind.u8 0, Value.int IntKind.u8 0, Value.int IntKind.u8 0, Value.int IntKind.u8 0, Value.int IntKind.u8 0, Value.int IntKind.u8 0, Value.int IntKind.u8 0, Value.int IntKind.u8 0, Value.int IntKind.u8 0, Value.int IntKind.u8 0, Value.int IntKind.u8 0, Value.int IntKind.u8 0, Value.int IntKind.u8 0, Value.int IntKind.u8 0, Value.int IntKind.u8 0, Value.int IntKind.u8 0, Value.int IntKind.u8 0, Value.int IntKind.u8 0, Value.int IntKind.u8 0, Value.int IntKind.u8 0, Value.int IntKind.u8 0, Value.int IntKind.u8 0, Value.int IntKind.u8 0, Value.int IntKind.u8 0, Value.int IntKind.u8 0, Value.int IntKind.u8 0, Value.int IntKind.u8 0, Value.int IntKind.u8 0, Value.int IntKind.u8 0, Value.int IntKind.u8 0, Value.int IntKind.u8 0, Value.int IntKind.u8 0, Value.int IntKind.u8 0, Value.int IntKind.u8 0, Value.int IntKind.u8 0, Value.int IntKind.u8 0, Value.int IntKind.u8 0, Value.int IntKind.u8 0, Value.int IntKind.u8 0, Value.int IntKind.u8 0, Value.int IntKind.u8 0, Value.int IntKind.u8 0, Value.int IntKind.u8 0, Value.int IntKind.u8 0, Value.int IntKind.u8 0, Value.int IntKind.u8 0, Value.int IntKind.u8 0, Value.int IntKind.u8 0, Value.int IntKind.u8 0, Value.int IntKind.u8 0, Value.int IntKind.u8 0, Value.int IntKind.u8 0, Value.int IntKind.u8 0, Value.int IntKind.u8 0, Value.int IntKind.u8 0, Value.int IntKind.u8 0, Value.int IntKind.u8 0, Value.int IntKind.u8 0, Value.int IntKind.u8 0, Value.int IntKind.u8 0, Value.int IntKind.u8 0, Value.int IntKind.u8 0, Value.int IntKind.u8 0, Value.int IntKind.u8 0, Value.int IntKind.u8 0, Value.int IntKind.u8 0, Value.int IntKind.u8 0, Value.int IntKind.u8 0, Value.int IntKind.u8 0, Value.int IntKind.u8 0, Value.int IntKind.u8 0, Value.int IntKind.u8 0, Value.int IntKind.u8 0, Value.int IntKind.u8 0, Value.int IntKind.u8 0, Value.int IntKind.u8 0, Value.int IntKind.u8 0, Value.int IntKind.u8 0, Value.int IntKind.u8 0, Value.int IntKind.u8 0, Value.int IntKind.u8 0, Value.int IntKind.u8 0, Value.int IntKind.u8 0, Value.int IntKind.u8 0, Value.int IntKind.u8 0, Value.int IntKind.u8 0, Value.int IntKind.u8 0, Value.int IntKind.u8 0, Value.int IntKind.u8 0, Value.int IntKind.u8 0, Value.int IntKind.u8 0, Value.int IntKind.u8 0, Value.int IntKind.u8 0, Value.int IntKind.u8 0, Value.int IntKind.u8 0, Value.int IntKind.u8 0, Value.int IntKind.u8 0, Value.int IntKind.u8 0, Value.int IntKind.u8 0, Value.int IntKind.u8 0, Value.int IntKind.u8 0, Value.int IntKind.u8 0, Value.int IntKind.u8 0, Value.int IntKind.u8 0, Value.int IntKind.u8 0, Value.int IntKind.u8 0, Value.int IntKind.u8 0, Value.int IntKind.u8 0, Value.int IntKind.u8 0, Value.int IntKind.u8 0, Value.int IntKind.u8 0, Value.int IntKind.u8 0, Value.int IntKind.u8 0, Value.int IntKind.u8 0, Value.int IntKind.u8 0, Value.int IntKind.u8 0, Value.int IntKind.u8 0, Value.int IntKind.u8 0, Value.int IntKind.u8 0, Value.int IntKind.u8 0, Value.int IntKind.u8 0, Value.int IntKind.u8 0, Value.int IntKind.u8 0, Value.int IntKind.u8 0, Value.int IntKind.u8 0, Value.int IntKind.u8 0, Value.int IntKind.u8 0, Value.int IntKind.u8 0, Value.int IntKind.u8 0, Value.int IntKind.u8 0, Value.int IntKind.u8 0, Value.int IntKind.u8 0, Value.int IntKind.u8 0, Value.int IntKind.u8 0, Value.int IntKind.u8 0, Value.int IntKind.u8 0, Value.int IntKind.u8 0, Value.int IntKind.u8 0, Value.int IntKind.u8 0, Value.int IntKind.u8 0, Value.int IntKind.u8 0, Value.int IntKind.u8 0, Value.int IntKind.u8 0, Value.int IntKind.u8 0, Value.int IntKind.u8 0, Value.int IntKind.u8 0, Value.int IntKind.u8 0, Value.int IntKind.u8 0, Value.int IntKind.u8 0, Value.int IntKind.u8 0, Value.int IntKind.u8 0, Value.int IntKind.u8 0, Value.int IntKind.u8 0, Value.int IntKind.u8 0, Value.int IntKind.u8 0, Value.int IntKind.u8 0, Value.int IntKind.u8 0, Value.int IntKind.u8 0, Value.int IntKind.u8 0, Value.int IntKind.u8 0, Value.int IntKind.u8 0, Value.int IntKind.u8 0, Value.int IntKind.u8 0, Value.int IntKind.u8 0, Value.int IntKind.u8 0, Value.int IntKind.u8 0, Value.int IntKind.u8 0, Value.int IntKind.u8 0, Value.int IntKind.u8 0, Value.int IntKind.u8 0, Value.int IntKind.u8 0, Value.int IntKind.u8 0, Value.int IntKind.u8 0, Value.int IntKind.u8 0, Value.int IntKind.u8 0, Value.int IntKind.u8 0, Value.int IntKind.u8 0, Value.int IntKind.u8 0, Value.int IntKind.u8 0, Value.int IntKind.u8 0, Value.int IntKind.u8 0, Value.int IntKind.u8 0, Value.int IntKind.u8 0, Value.int IntKind.u8 0, Value.int IntKind.u8 0, Value.int IntKind.u8 0, Value.int IntKind.u8 0, Value.int IntKind.u8 0, Value.int IntKind.u8 0, Value.int IntKind.u8 0, Value.int IntKind.u8 0, Value.int IntKind.u8 0, Value.int IntKind.u8 0, Value.int IntKind.u8 0, Value.int IntKind.u8 0, Value.int IntKind.u8 0, Value.int IntKind.u8 0, Value.int IntKind.u8 0, Value.int IntKind.u8 0, Value.int IntKind.u8 0, Value.int IntKind.u8 0, Value.int IntKind.u8 0, Value.int IntKind.u8 0, Value.int IntKind.u8 0, Value.int IntKind.u8 0, Value.int IntKind.u8 0, Value.int IntKind.u8 0, Value.int IntKind.u8 0, Value.int IntKind.u8 0, Value.int IntKind.u8 0, Value.int IntKind.u8 0, Value.int IntKind.u8 0, Value.int IntKind.u8 0, Value.int IntKind.u8 0, Value.int IntKind.u8 0]) := by kernel_rfl
@[simp] theorem tptr_76 : tptr prog 76 = false := by kernel_rfl
@[simp] theorem tflat_76 : tflat prog 76 = none := by kernel_rfl
@[simp] theorem tsz_77 : tsz prog 77 = some 1 := by kernel_rfl
@[simp] theorem tagg_77 : tagg prog 77 = some false := by kernel_rfl
@[simp] theorem tcells_77 : tcells prog 77 = [77] := by kernel_rfl
@[simp] theorem tslice_77 : tslice prog 77 = none := by kernel_rfl
@[simp] theorem tkind_77 : tkind prog 77 = some 2 := by kernel_rfl
@[simp] theorem tint_77 : tint prog 77 = some IntKind.u64 := by kernel_rfl
@[simp] theorem tbytes_77 : tbytes prog 77 = some 8 := by kernel_rfl
@[simp] theorem tplaces_77 : tplaces prog 77 = none := by kernel_rfl
@[simp] theorem tzero_77 : tzero prog 77 = some (Value.int IntKind.u64 0) := by kernel_rfl
@[simp] theorem tptr_77 : tptr prog 77 = false := by kernel_rfl
@[simp] theorem tflat_77 : tflat prog 77 = none := by kernel_rfl
@[simp] theorem tsz_78 : tsz prog 78 = some 2 := by kernel_rfl
@[simp] theorem tagg_78 : tagg prog 78 = some true := by kernel_rfl
@[simp] theorem tcells_78 : tcells prog 78 = [5, 5] := by kernel_rfl
@[simp] theorem tslice_78 : tslice prog 78 = none := by kernel_rfl
@[simp] theorem tkind_78 : tkind prog 78 = some 4 := by kernel_rfl
@[simp] theorem tint_78 : tint prog 78 = none := by kernel_rfl
@[simp] theorem tbytes_78 : tbytes prog 78 = some 2 := by kernel_rfl
@[simp] theorem tplaces_78 : tplaces prog 78 = some [(0, 1), (1, 1)] := by kernel_rfl
@[simp] theorem tzero_78 : tzero prog 78 = some (Value.agg #[Value.int IntKind.u8 0, Value.int IntKind.u8 0]) := by kernel_rfl
@[simp] theorem tptr_78 : tptr prog 78 = false := by kernel_rfl
@[simp] theorem tflat_78 : tflat prog 78 = some [2, 2] := by kernel_rfl
@[simp] theorem tfield_78_0 : tfield prog 78 0 = some (0, 1, false) := by kernel_rfl
@[simp] theorem tfield_78_1 : tfield prog 78 1 = some (1, 1, false) := by kernel_rfl
@[simp] theorem tsz_79 : tsz prog 79 = some 2 := by kernel_rfl
@[simp] theorem tagg_79 : tagg prog 79 = some true := by kernel_rfl
@[simp] theorem tcells_79 : tcells prog 79 = [5, 5] := by kernel_rfl
@[simp] theorem tslice_79 : tslice prog 79 = none := by kernel_rfl
@[simp] theorem tkind_79 : tkind prog 79 = some 4 := by kernel_rfl
@[simp] theorem tint_79 : tint prog 79 = none := by kernel_rfl
@[simp] theorem tbytes_79 : tbytes prog 79 = some 2 := by kernel_rfl
@[simp] theorem tplaces_79 : tplaces prog 79 = some [(0, 1), (1, 1)] := by kernel_rfl
@[simp] theorem tzero_79 : tzero prog 79 = some (Value.agg #[Value.int IntKind.u8 0, Value.int IntKind.u8 0]) := by kernel_rfl
@[simp] theorem tptr_79 : tptr prog 79 = false := by kernel_rfl
@[simp] theorem tflat_79 : tflat prog 79 = some [2, 2] := by kernel_rfl
@[simp] theorem tfield_79_0 : tfield prog 79 0 = some (0, 1, false) := by kernel_rfl
@[simp] theorem tfield_79_1 : tfield prog 79 1 = some (1, 1, false) := by kernel_rfl
@[simp] theorem tsz_80 : tsz prog 80 = some 32 := by kernel_rfl
@[simp] theorem tagg_80 : tagg prog 80 = some true := by kernel_rfl
@[simp] theorem tcells_80 : tcells prog 80 = [80] := by kernel_rfl
@[simp] theorem tslice_80 : tslice prog 80 = none := by kernel_rfl
@[simp] theorem tkind_80 : tkind prog 80 = some 4 := by kernel_rfl
@[simp] theorem tint_80 : tint prog 80 = none := by kernel_rfl
@[simp] theorem tbytes_80 : tbytes prog 80 = some 32 := by kernel_rfl
@[simp] theorem tplaces_80 : tplaces prog 80 = none := by kernel_rfl
@[simp] theorem tzero_80 : tzero prog 80 = some (Value.agg #[Value.int IntKind.u8 0, Value.int IntKind.u8 0, Value.int IntKind.u8 0, Value.int IntKind.u8 0, Value.int IntKind.u8 0, Value.int IntKind.u8 0, Value.int IntKind.u8 0, Value.int IntKind.u8 0, Value.int IntKind.u8 0, Value.int IntKind.u8 0, Value.int IntKind.u8 0, Value.int IntKind.u8 0, Value.int IntKind.u8 0, Value.int IntKind.u8 0, Value.int IntKind.u8 0, Value.int IntKind.u8 0, Value.int IntKind.u8 0, Value.int IntKind.u8 0, Value.int IntKind.u8 0, Value.int IntKind.u8 0, Value.int IntKind.u8 0, Value.int IntKind.u8 0, Value.int IntKind.u8 0, Value.int IntKind.u8 0, Value.int IntKind.u8 0, Value.int IntKind.u8 0, Value.int IntKind.u8 0, Value.int IntKind.u8 0, Value.int IntKind.u8 0, Value.int IntKind.u8 0, Value.int IntKind.u8 0, Value.int IntKind.u8 0]) := by kernel_rfl
@[simp] theorem tptr_80 : tptr prog 80 = false := by kernel_rfl
@[simp] theorem tflat_80 : tflat prog 80 = none := by kernel_rfl
@[simp] theorem tsz_81 : tsz prog 81 = some 1 := by kernel_rfl
@[simp] theorem tagg_81 : tagg prog 81 = some false := by kernel_rfl
@[simp] theorem tcells_81 : tcells prog 81 = [81] := by kernel_rfl
@[simp] theorem tslice_81 : tslice prog 81 = none := by kernel_rfl
@[simp] theorem tkind_81 : tkind prog 81 = some 4 := by kernel_rfl
@[simp] theorem tint_81 : tint prog 81 = none := by kernel_rfl
@[simp] theorem tbytes_81 : tbytes prog 81 = some 8 := by kernel_rfl
@[simp] theorem tplaces_81 : tplaces prog 81 = none := by kernel_rfl
@[simp] theorem tzero_81 : tzero prog 81 = some Value.nilFunc := by kernel_rfl
@[simp] theorem tptr_81 : tptr prog 81 = false := by kernel_rfl
@[simp] theorem tflat_81 : tflat prog 81 = none := by kernel_rfl
@[simp] theorem tsz_82 : tsz prog 82 = some 1 := by kernel_rfl
@[simp] theorem tagg_82 : tagg prog 82 = some false := by kernel_rfl
@[simp] theorem tcells_82 : tcells prog 82 = [82] := by kernel_rfl
@[simp] theorem tslice_82 : tslice prog 82 = none := by kernel_rfl
@[simp] theorem tkind_82 : tkind prog 82 = some 4 := by kernel_rfl
@[simp] theorem tint_82 : tint prog 82 = none := by kernel_rfl
@[simp] theorem tbytes_82 : tbytes prog 82 = some 8 := by kernel_rfl
@[simp] theorem tplaces_82 : tplaces prog 82 = none := by kernel_rfl
@[simp] theorem tzero_82 : tzero prog 82 = some Value.nilFunc := by kernel_rfl
@[simp] theorem tptr_82 : tptr prog 82 = false := by kernel_rfl
@[simp] theorem tflat_82 : tflat prog 82 = none := by kernel_rfl
@[simp] theorem tsz_83 : tsz prog 83 = some 1 := by kernel_rfl
@[simp] theorem tagg_83 : tagg prog 83 = some false := by kernel_rfl
@[simp] theorem tcells_83 : tcells prog 83 = [83] := by kernel_rfl
@[simp] theorem tslice_83 : tslice prog 83 = none := by kernel_rfl
@[simp] theorem tkind_83 : tkind prog 83 = some 4 := by kernel_rfl
@[simp] theorem tint_83 : tint prog 83 = none := by kernel_rfl
@[simp] theorem tbytes_83 : tbytes prog 83 = some 8 := by kernel_rfl
@[simp] theorem tplaces_83 : tplaces prog 83 = none := by kernel_rfl
@[simp] theorem tzero_83 : tzero prog 83 = some Value.nilFunc := by kernel_rfl
@[simp] theorem tptr_83 : tptr prog 83 = false := by kernel_rfl
@[simp] theorem tflat_83 : tflat prog 83 = none := by kernel_rfl
@[simp] theorem tsz_84 : tsz prog 84 = some 1 := by kernel_rfl
@[simp] theorem tagg_84 : tagg prog 84 = some false := by kernel_rfl
@[simp] theorem tcells_84 : tcells prog 84 = [84] := by kernel_rfl
@[simp] theorem tslice_84 : tslice prog 84 = none := by kernel_rfl
@[simp] theorem tkind_84 : tkind prog 84 = some 4 := by kernel_rfl
@[simp] theorem tint_84 : tint prog 84 = none := by kernel_rfl
@[simp] theorem tbytes_84 : tbytes prog 84 = some 8 := by kernel_rfl
@[simp] theorem tplaces_84 : tplaces prog 84 = none := by kernel_rfl
@[simp] theorem tzero_84 : tzero prog 84 = some Value.nilFunc := by kernel_rfl
@[simp] theorem tptr_84 : tptr prog 84 = false := by kernel_rfl
@[simp] theorem tflat_84 : tflat prog 84 = none := by kernel_rfl
@[simp] theorem tsz_85 : tsz prog 85 = some 1 := by kernel_rfl
@[simp] theorem tagg_85 : tagg prog 85 = some false := by kernel_rfl
@[simp] theorem tcells_85 : tcells prog 85 = [85] := by kernel_rfl
@[simp] theorem tslice_85 : tslice prog 85 = none := by kernel_rfl
@[simp] theorem tkind_85 : tkind prog 85 = some 2 := by kernel_rfl
@[simp] theorem tint_85 : tint prog 85 = some IntKind.u32 := by kernel_rfl
@[simp] theorem tbytes_85 : tbytes prog 85 = some 4 := by kernel_rfl
@[simp] theorem tplaces_85 : tplaces prog 85 = none := by kernel_rfl
@[simp] theorem tzero_85 : tzero prog 85 = some (Value.int IntKind.u32 0) := by kernel_rfl
@[simp] theorem tptr_85 : tptr prog 85 = false := by kernel_rfl
@[simp] theorem tflat_85 : tflat prog 85 = none := by kernel_rfl
@[simp] theorem tsz_86 : tsz prog 86 = some 1 := by kernel_rfl
@[simp] theorem tagg_86 : tagg prog 86 = some false := by kernel_rfl
@[simp] theorem tcells_86 : tcells prog 86 = [86] := by kernel_rfl
@[simp] theorem tslice_86 : tslice prog 86 = none := by kernel_rfl
@[simp] theorem tkind_86 : tkind prog 86 = some 4 := by kernel_rfl
@[simp] theorem tint_86 : tint prog 86 = none := by kernel_rfl
@[simp] theorem tbytes_86 : tbytes prog 86 = some 0 := by kernel_rfl
@[simp] theorem tplaces_86 : tplaces prog 86 = none := by kernel_rfl
@[simp] theorem tzero_86 : tzero prog 86 = some (Value.tuple #[Value.int IntKind.u32 0, Value.int IntKind.u32 0]) := by kernel_rfl
@[simp] theorem tptr_86 : tptr prog 86 = false := by kernel_rfl
@[simp] theorem tflat_86 : tflat prog 86 = none := by kernel_rfl
@[simp] theorem tsz_87 : tsz prog 87 = some 1 := by kernel_rfl
@[simp] theorem tagg_87 : tagg prog 87 = some false := by kernel_rfl
@[simp] theorem tcells_87 : tcells prog 87 = [87] := by kernel_rfl
@[simp] theorem tslice_87 : tslice prog 87 = none := by kernel_rfl
@[simp] theorem tkind_87 : tkind prog 87 = some 4 := by kernel_rfl
@[simp] theorem tint_87 : tint prog 87 = none := by kernel_rfl
@[simp] theorem tbytes_87 : tbytes prog 87 = some 8 := by kernel_rfl
@[simp] theorem tplaces_87 : tplaces prog 87 = none := by kernel_rfl
@[simp] theorem tzero_87 : tzero prog 87 = some Value.nilFunc := by kernel_rfl
@[simp] theorem tptr_87 : tptr prog 87 = false := by kernel_rfl
@[simp] theorem tflat_87 : tflat prog 87 = none := by kernel_rfl
@[simp] theorem tsz_88 : tsz prog 88 = some 1 := by kernel_rfl
@[simp] theorem tagg_88 : tagg prog 88 = some false := by kernel_rfl
@[simp] theorem tcells_88 : tcells prog 88 = [88] := by kernel_rfl
@[simp] theorem tslice_88 : tslice prog 88 = none := by kernel_rfl
@[simp] theorem tkind_88 : tkind prog 88 = some 4 := by kernel_rfl
@[simp] theorem tint_88 : tint prog 88 = none := by kernel_rfl
@[simp] theorem tbytes_88 : tbytes prog 88 = some 8 := by kernel_rfl
@[simp] theorem tplaces_88 : tplaces prog 88 = none := by kernel_rfl
@[simp] theorem tzero_88 : tzero prog 88 = some Value.nilFunc := by kernel_rfl
@[simp] theorem tptr_88 : tptr prog 88 = false := by kernel_rfl
@[simp] theorem tflat_88 : tflat prog 88 = none := by kernel_rfl
@[simp] theorem tsz_89 : tsz prog 89 = some 4 := by kernel_rfl
@[simp] theorem tagg_89 : tagg prog 89 = some true := by kernel_rfl
@[simp] theorem tcells_89 : tcells prog 89 = [17, 17, 17, 9] := by kernel_rfl
@[simp] theorem tslice_89 : tslice prog 89 = none := by kernel_rfl
@[simp] theorem tkind_89 : tkind prog 89 = some 4 := by kernel_rfl
@[simp] theorem tint_89 : tint prog 89 = none := by kernel_rfl
@[simp] theorem tbytes_89 : tbytes prog 89 = some 40 := by kernel_rfl
@[simp] theorem tplaces_89 : tplaces prog 89 = some [(0, 1), (1, 1), (2, 1), (3, 1)] := by kernel_rfl
@[simp] theorem tzero_89 : tzero prog 89 = some (Value.agg #[Value.pointer none, Value.pointer none, Value.pointer none, Value.string ⟨#[]⟩]) := by kernel_rfl
@[simp] theorem tptr_89 : tptr prog 89 = false := by kernel_rfl
@[simp] theorem tflat_89 : tflat prog 89 = none := by kernel_rfl
@[simp] theorem tfield_89_0 : tfield prog 89 0 = some (0, 1, false) := by kernel_rfl
@[simp] theorem tfield_89_1 : tfield prog 89 1 = some (1, 1, false) := by kernel_rfl
@[simp] theorem tfield_89_2 : tfield prog 89 2 = some (2, 1, false) := by kernel_rfl
@[simp] theorem tfield_89_3 : tfield prog 89 3 = some (3, 1, false) := by kernel_rfl
@[simp] theorem tsz_90 : tsz prog 90 = some 4 := by kernel_rfl
@[simp] theorem tagg_90 : tagg prog 90 = some true := by kernel_rfl
@[simp] theorem tcells_90 : tcells prog 90 = [17, 17, 17, 9] := by kernel_rfl
@[simp] theorem tslice_90 : tslice prog 90 = none := by kernel_rfl
@[simp] theorem tkind_90 : tkind prog 90 = some 4 := by kernel_rfl
@[simp] theorem tint_90 : tint prog 90 = none := by kernel_rfl
@[simp] theorem tbytes_90 : tbytes prog 90 = some 40 := by kernel_rfl
@[simp] theorem tplaces_90 : tplaces prog 90 = some [(0, 1), (1, 1), (2, 1), (3, 1)] := by kernel_rfl
@[simp] theorem tzero_90 : tzero prog 90 = some (Value.agg #[Value.pointer none, Value.pointer none, Value.pointer none, Value.string ⟨#[]⟩]) := by kernel_rfl
@[simp] theorem tptr_90 : tptr prog 90 = true := by kernel_rfl
@[simp] theorem tflat_90 : tflat prog 90 = none := by kernel_rfl
@[simp] theorem tfield_90_0 : tfield prog 90 0 = some (0, 1, false) := by kernel_rfl
@[simp] theorem tfield_90_1 : tfield prog 90 1 = some (1, 1, false) := by kernel_rfl
@[simp] theorem tfield_90_2 : tfield prog 90 2 = some (2, 1, false) := by kernel_rfl
@[simp] theorem tfield_90_3 : tfield prog 90 3 = some (3, 1, false) := by kernel_rfl
@[simp] theorem tsz_91 : tsz prog 91 = some 0 := by kernel_rfl
@[simp] theorem tagg_91 : tagg prog 91 = some true := by kernel_rfl
@[simp] theorem tcells_91 : tcells prog 91 = [91] := by kernel_rfl
@[simp] theorem tslice_91 : tslice prog 91 = none := by kernel_rfl
@[simp] theorem tkind_91 : tkind prog 91 = some 4 := by kernel_rfl
@[simp] theorem tint_91 : tint prog 91 = none := by kernel_rfl
@[simp] theorem tbytes_91 : tbytes prog 91 = some 0 := by kernel_rfl
@[simp] theorem tplaces_91 : tplaces prog 91 = none := by kernel_rfl
@[simp] theorem tzero_91 : tzero prog 91 = some (Value.agg #[]) := by kernel_rfl
@[simp] theorem tptr_91 : tptr prog 91 = false := by kernel_rfl
@[simp] theorem tflat_91 : tflat prog 91 = none := by kernel_rfl
@[simp] theorem tsz_92 : tsz prog 92 = some 0 := by kernel_rfl
@[simp] theorem tagg_92 : tagg prog 92 = some true := by kernel_rfl
@[simp] theorem tcells_92 : tcells prog 92 = [91] := by kernel_rfl
@[simp] theorem tslice_92 : tslice prog 92 = none := by kernel_rfl
@[simp] theorem tkind_92 : tkind prog 92 = some 4 := by kernel_rfl
@[simp] theorem tint_92 : tint prog 92 = none := by kernel_rfl
@[simp] theorem tbytes_92 : tbytes prog 92 = some 0 := by kernel_rfl
@[simp] theorem tplaces_92 : tplaces prog 92 = some [(0, 0)] := by kernel_rfl
@[simp] theorem tzero_92 : tzero prog 92 = some (Value.agg #[]) := by kernel_rfl
@[simp] theorem tptr_92 : tptr prog 92 = false := by kernel_rfl
@[simp] theorem tflat_92 : tflat prog 92 = none := by kernel_rfl
@[simp] theorem tfield_92_0 : tfield prog 92 0 = some (0, 0, true) := by kernel_rfl
@[simp] theorem tsz_93 : tsz prog 93 = some 0 := by kernel_rfl
@[simp] theorem tagg_93 : tagg prog 93 = some true := by kernel_rfl
@[simp] theorem tcells_93 : tcells prog 93 = [91] := by kernel_rfl
@[simp] theorem tslice_93 : tslice prog 93 = none := by kernel_rfl
@[simp] theorem tkind_93 : tkind prog 93 = some 4 := by kernel_rfl
@[simp] theorem tint_93 : tint prog 93 = none := by kernel_rfl
@[simp] theorem tbytes_93 : tbytes prog 93 = some 0 := by kernel_rfl
@[simp] theorem tplaces_93 : tplaces prog 93 = some [(0, 0)] := by kernel_rfl
@[simp] theorem tzero_93 : tzero prog 93 = some (Value.agg #[]) := by kernel_rfl
@[simp] theorem tptr_93 : tptr prog 93 = true := by kernel_rfl
@[simp] theorem tflat_93 : tflat prog 93 = none := by kernel_rfl
@[simp] theorem tfield_93_0 : tfield prog 93 0 = some (0, 0, true) := by kernel_rfl
@[simp] theorem tsz_94 : tsz prog 94 = some 1 := by kernel_rfl
@[simp] theorem tagg_94 : tagg prog 94 = some false := by kernel_rfl
@[simp] theorem tcells_94 : tcells prog 94 = [94] := by kernel_rfl
@[simp] theorem tslice_94 : tslice prog 94 = none := by kernel_rfl
@[simp] theorem tkind_94 : tkind prog 94 = some 2 := by kernel_rfl
@[simp] theorem tint_94 : tint prog 94 = some IntKind.u8 := by kernel_rfl
@[simp] theorem tbytes_94 : tbytes prog 94 = some 1 := by kernel_rfl
@[simp] theorem tplaces_94 : tplaces prog 94 = none := by kernel_rfl
@[simp] theorem tzero_94 : tzero prog 94 = some (Value.int IntKind.u8 0) := by kernel_rfl
@[simp] theorem tptr_94 : tptr prog 94 = false := by kernel_rfl
@[simp] theorem tflat_94 : tflat prog 94 = none := by kernel_rfl
@[simp] theorem tsz_95 : tsz prog 95 = some 1 := by kernel_rfl
@[simp] theorem tagg_95 : tagg prog 95 = some false := by kernel_rfl
@[simp] theorem tcells_95 : tcells prog 95 = [95] := by kernel_rfl
@[simp] theorem tslice_95 : tslice prog 95 = none := by kernel_rfl
@[simp] theorem tkind_95 : tkind prog 95 = some 2 := by kernel_rfl
@[simp] theorem tint_95 : tint prog 95 = some IntKind.u8 := by kernel_rfl
@[simp] theorem tbytes_95 : tbytes prog 95 = some 1 := by kernel_rfl
@[simp] theorem tplaces_95 : tplaces prog 95 = none := by kernel_rfl
@[simp] theorem tzero_95 : tzero prog 95 = some (Value.int IntKind.u8 0) := by kernel_rfl
@[simp] theorem tptr_95 : tptr prog 95 = false := by kernel_rfl
@[simp] theorem tflat_95 : tflat prog 95 = none := by kernel_rfl
@[simp] theorem tsz_96 : tsz prog 96 = some 1 := by kernel_rfl
@[simp] theorem tagg_96 : tagg prog 96 = some false := by kernel_rfl
@[simp] theorem tcells_96 : tcells prog 96 = [96] := by kernel_rfl
@[simp] theorem tslice_96 : tslice prog 96 = none := by kernel_rfl
@[simp] theorem tkind_96 : tkind prog 96 = some 4 := by kernel_rfl
@[simp] theorem tint_96 : tint prog 96 = none := by kernel_rfl
@[simp] theorem tbytes_96 : tbytes prog 96 = some 8 := by kernel_rfl
@[simp] theorem tplaces_96 : tplaces prog 96 = none := by kernel_rfl
@[simp] theorem tzero_96 : tzero prog 96 = some Value.nilFunc := by kernel_rfl
@[simp] theorem tptr_96 : tptr prog 96 = false := by kernel_rfl
@[simp] theorem tflat_96 : tflat prog 96 = none := by kernel_rfl
@[simp] theorem tsz_97 : tsz prog 97 = some 1 := by kernel_rfl
@[simp] theorem tagg_97 : tagg prog 97 = some false := by kernel_rfl
@[simp] theorem tcells_97 : tcells prog 97 = [97] := by kernel_rfl
@[simp] theorem tslice_97 : tslice prog 97 = none := by kernel_rfl
@[simp] theorem tkind_97 : tkind prog 97 = some 5 := by kernel_rfl
@[simp] theorem tint_97 : tint prog 97 = none := by kernel_rfl
@[simp] theorem tbytes_97 : tbytes prog 97 = some 8 := by kernel_rfl
@[simp] theorem tplaces_97 : tplaces prog 97 = none := by kernel_rfl
@[simp] theorem tzero_97 : tzero prog 97 = some (Value.pointer none) := by kernel_rfl
@[simp] theorem tptr_97 : tptr prog 97 = false := by kernel_rfl
@[simp] theorem tflat_97 : tflat prog 97 = none := by kernel_rfl
@[simp] theorem tsz_98 : tsz prog 98 = some 1 := by kernel_rfl
@[simp] theorem tagg_98 : tagg prog 98 = some false := by kernel_rfl
@[simp] theorem tcells_98 : tcells prog 98 = [98] := by kernel_rfl
@[simp] theorem tslice_98 : tslice prog 98 = none := by kernel_rfl
@[simp] theorem tkind_98 : tkind prog 98 = some 2 := by kernel_rfl
@[simp] theorem tint_98 : tint prog 98 = some IntKind.i32 := by kernel_rfl
@[simp] theorem tbytes_98 : tbytes prog 98 = some 4 := by kernel_rfl
@[simp] theorem tplaces_98 : tplaces prog 98 = none := by kernel_rfl
@[simp] theorem tzero_98 : tzero prog 98 = some (Value.int IntKind.i32 0) := by kernel_rfl
@[simp] theorem tptr_98 : tptr prog 98 = false := by kernel_rfl
@[simp] theorem tflat_98 : tflat prog 98 = none := by kernel_rfl
@[simp] theorem tsz_99 : tsz prog 99 = some 1 := by kernel_rfl
@[simp] theorem tagg_99 : tagg prog 99 = some false := by kernel_rfl
@[simp] theorem tcells_99 : tcells prog 99 = [99] := by kernel_rfl
@[simp] theorem tslice_99 : tslice prog 99 = none := by kernel_rfl
@[simp] theorem tkind_99 : tkind prog 99 = some 2 := by kernel_rfl
@[simp] theorem tint_99 : tint prog 99 = some IntKind.i32 := by kernel_rfl
@[simp] theorem tbytes_99 : tbytes prog 99 = some 4 := by kernel_rfl
@[simp] theorem tplaces_99 : tplaces prog 99 = none := by kernel_rfl
@[simp] theorem tzero_99 : tzero prog 99 = some (Value.int IntKind.i32 0) := by kernel_rfl
@[simp] theorem tptr_99 : tptr prog 99 = false := by kernel_rfl
@[simp] theorem tflat_99 : tflat prog 99 = none := by kernel_rfl
@[simp] theorem tsz_100 : tsz prog 100 = some 11 := by kernel_rfl
@[simp] theorem tagg_100 : tagg prog 100 = some true := by kernel_rfl
@[simp] theorem tcells_100 : tcells prog 100 = [12, 12, 85, 94, 5, 5, 95, 96, 97, 98, 99] := by kernel_rfl
@[simp] theorem tslice_100 : tslice prog 100 = none := by kernel_rfl
@[simp] theorem tkind_100 : tkind prog 100 = some 4 := by kernel_rfl
@[simp] theorem tint_100 : tint prog 100 = none := by kernel_rfl
@[simp] theorem tbytes_100 : tbytes prog 100 = some 48 := by kernel_rfl
@[simp] theorem tplaces_100 : tplaces prog 100 = some [(0, 1), (1, 1), (2, 1), (3, 1), (4, 1), (5, 1), (6, 1), (7, 1), (8, 1), (9, 1), (10, 1)] := by kernel_rfl
@[simp] theorem tzero_100 : tzero prog 100 = some (Value.agg #[Value.int IntKind.u64 0, Value.int IntKind.u64 0, Value.int IntKind.u32 0, Value.int IntKind.u8 0, Value.int IntKind.u8 0, Value.int IntKind.u8 0, Value.int IntKind.u8 0, Value.nilFunc, Value.pointer none, Value.int IntKind.i32 0, Value.int IntKind.i32 0]) := by kernel_rfl
@[simp] theorem tptr_100 : tptr prog 100 = false := by kernel_rfl
@[simp] theorem tflat_100 : tflat prog 100 = none := by kernel_rfl
@[simp] theorem tfield_100_0 : tfield prog 100 0 = some (0, 1, false) := by kernel_rfl
@[simp] theorem tfield_100_1 : tfield prog 100 1 = some (1, 1, false) := by kernel_rfl
@[simp] theorem tfield_100_2 : tfield prog 100 2 = some (2, 1, false) := by kernel_rfl
@[simp] theorem tfield_100_3 : tfield prog 100 3 = some (3, 1, false) := by kernel_rfl
@[simp] theorem tfield_100_4 : tfield prog 100 4 = some (4, 1, false) := by kernel_rfl
@[simp] theorem tfield_100_5 : tfield prog 100 5 = some (5, 1, false) := by kernel_rfl
@[simp] theorem tfield_100_6 : tfield prog 100 6 = some (6, 1, false) := by kernel_rfl
@[simp] theorem tfield_100_7 : tfield prog 100 7 = some (7, 1, false) := by kernel_rfl
@[simp] theorem tfield_100_8 : tfield prog 100 8 = some (8, 1, false) := by kernel_rfl
@[simp] theorem tfield_100_9 : tfield prog 100 9 = some (9, 1, false) := by kernel_rfl
@[simp] theorem tfield_100_10 : tfield prog 100 10 = some (10, 1, false) := by kernel_rfl
@[simp] theorem tsz_101 : tsz prog 101 = some 11 := by kernel_rfl
@[simp] theorem tagg_101 : tagg prog 101 = some true := by kernel_rfl
@[simp] theorem tcells_101 : tcells prog 101 = [12, 12, 85, 94, 5, 5, 95, 96, 97, 98, 99] := by kernel_rfl
@[simp] theorem tslice_101 : tslice prog 101 = none := by kernel_rfl
@[simp] theorem tkind_101 : tkind prog 101 = some 4 := by kernel_rfl
@[simp] theorem tint_101 : tint prog 101 = none := by kernel_rfl
@[simp] theorem tbytes_101 : tbytes prog 101 = some 48 := by kernel_rfl
@[simp] theorem tplaces_101 : tplaces prog 101 = some [(0, 1), (1, 1), (2, 1), (3, 1), (4, 1), (5, 1), (6, 1), (7, 1), (8, 1), (9, 1), (10, 1)] := by kernel_rfl
@[simp] theorem tzero_101 : tzero prog 101 = some (Value.agg #[Value.int IntKind.u64 0, Value.int IntKind.u64 0, Value.int IntKind.u32 0, Value.int IntKind.u8 0, Value.int IntKind.u8 0, Value.int IntKind.u8 0, Value.int IntKind.u8 0, Value.nilFunc, Value.pointer none, Value.int IntKind.i32 0, Value.int IntKind.i32 0]) := by kernel_rfl
@[simp] theorem tptr_101 : tptr prog 101 = true := by kernel_rfl
@[simp] theorem tflat_101 : tflat prog 101 = none := by kernel_rfl
@[simp] theorem tfield_101_0 : tfield prog 101 0 = some (0, 1, false) := by kernel_rfl
@[simp] theorem tfield_101_1 : tfield prog 101 1 = some (1, 1, false) := by kernel_rfl
@[simp] theorem tfield_101_2 : tfield prog 101 2 = some (2, 1, false) := by kernel_rfl
@[simp] theorem tfield_101_3 : tfield prog 101 3 = some (3, 1, false) := by kernel_rfl
@[simp] theorem tfield_101_4 : tfield prog 101 4 = some (4, 1, false) := by kernel_rfl
@[simp] theorem tfield_101_5 : tfield prog 101 5 = some (5, 1, false) := by kernel_rfl
@[simp] theorem tfield_101_6 : tfield prog 101 6 = some (6, 1, false) := by kernel_rfl
@[simp] theorem tfield_101_7 : tfield prog 101 7 = some (7, 1, false) := by kernel_rfl
@[simp] theorem tfield_101_8 : tfield prog 101 8 = some (8, 1, false) := by kernel_rfl
@[simp] theorem tfield_101_9 : tfield prog 101 9 = some (9, 1, false) := by kernel_rfl
@[simp] theorem tfield_101_10 : tfield prog 101 10 = some (10, 1, false) := by kernel_rfl
@[simp] theorem tsz_102 : tsz prog 102 = some 1 := by kernel_rfl
@[simp] theorem tagg_102 : tagg prog 102 = some false := by kernel_rfl
@[simp] theorem tcells_102 : tcells prog 102 = [102] := by kernel_rfl
@[simp] theorem tslice_102 : tslice prog 102 = none := by kernel_rfl
@[simp] theorem tkind_102 : tkind prog 102 = some 4 := by kernel_rfl
@[simp] theorem tint_102 : tint prog 102 = none := by kernel_rfl
@[simp] theorem tbytes_102 : tbytes prog 102 = some 8 := by kernel_rfl
@[simp] theorem tplaces_102 : tplaces prog 102 = none := by kernel_rfl
@[simp] theorem tzero_102 : tzero prog 102 = some (Value.pointer none) := by kernel_rfl
@[simp] theorem tptr_102 : tptr prog 102 = false := by kernel_rfl
@[simp] theorem tflat_102 : tflat prog 102 = none := by kernel_rfl
@[simp] theorem zc_0 : ((Value.tuple #[]) : Value).cells.size = 1 := by kernel_rfl
@[simp] theorem zc_1 : (Value.nilFunc : Value).cells.size = 1 := by kernel_rfl
@[simp] theorem zc_2 : ((Value.int IntKind.i64 0) : Value).cells.size = 1 := by kernel_rfl
@[simp] theorem zc_3 : ((Value.int IntKind.i64 0) : Value).cells.size = 1 := by kernel_rfl
@[simp] theorem zc_4 : ((Value.bool false) : Value).cells.size = 1 := by kernel_rfl
@[simp] theorem zc_5 : ((Value.int IntKind.u8 0) : Value).cells.size = 1 := by kernel_rfl
@[simp] theorem zc_6 : ((Value.int IntKind.u8 0) : Value).cells.size = 1 := by kernel_rfl
@[simp] theorem zc_7 : ((Value.agg #[Value.int IntKind.i64 0, Value.int IntKind.i64 0, Value.bool false, Value.int IntKind.u8 0]) : Value).cells.size = 4 := by kernel_rfl
@[simp] theorem zc_8 : ((Value.agg #[Value.int IntKind.i64 0, Value.int IntKind.i64 0, Value.bool false, Value.int IntKind.u8 0]) : Value).cells.size = 4 := by kernel_rfl
@[simp] theorem zc_9 : ((Value.string ⟨#[]⟩) : Value).cells.size = 1 := by kernel_rfl
@[simp] theorem zc_10 : ((Value.string ⟨#[]⟩) : Value).cells.size = 1 := by kernel_rfl
@[simp] theorem zc_11 : ((Value.string ⟨#[]⟩) : Value).cells.size = 1 := by kernel_rfl
@[simp] theorem zc_12 : ((Value.int IntKind.u64 0) : Value).cells.size = 1 := by kernel_rfl
@[simp] theorem zc_13 : ((Value.agg #[Value.string ⟨#[]⟩, Value.int IntKind.u64 0]) : Value).cells.size = 2 := by kernel_rfl
@[simp] theorem zc_14 : ((Value.agg #[Value.string ⟨#[]⟩, Value.int IntKind.u64 0]) : Value).cells.size = 2 := by kernel_rfl
@[simp] theorem zc_15 : ((Value.pointer none) : Value).cells.size = 1 := by kernel_rfl
@[simp] theorem zc_16 : ((Value.pointer none) : Value).cells.size = 1 := by kernel_rfl
@[simp] theorem zc_17 : ((Value.pointer none) : Value).cells.size = 1 := by kernel_rfl
@[simp] theorem zc_18 : ((Value.agg #[Value.pointer none]) : Value).cells.size = 1 := by kernel_rfl
@[simp] theorem zc_19 : ((Value.agg #[Value.pointer none]) : Value).cells.size = 1 := by kernel_rfl
@[simp] theorem zc_20 : (Value.nilIface : Value).cells.size = 1 := by kernel_rfl
@[simp] theorem zc_21 : ((Value.int IntKind.i32 0) : Value).cells.size = 1 := by kernel_rfl
@[simp] theorem zc_22 : ((Value.slice none 0 0) : Value).cells.size = 1 := by kernel_rfl
@[simp] theorem zc_23 : ((Value.agg #[Value.int IntKind.i64 0, Value.int IntKind.i64 0, Value.slice none 0 0]) : Value).cells.size = 3 := by kernel_rfl
@[simp] theorem zc_24 : ((Value.agg #[Value.int IntKind.i64 0, Value.int IntKind.i64 0, Value.slice none 0 0]) : Value).cells.size = 3 := by kernel_rfl
@[simp] theorem zc_25 : ((Value.slice none 0 0) : Value).cells.size = 1 := by kernel_rfl
@[simp] theorem zc_26 : (Value.nilFunc : Value).cells.size = 1 := by kernel_rfl
@[simp] theorem zc_27 : (Value.nilFunc : Value).cells.size = 1 := by kernel_rfl
@[simp] theorem zc_28 : (Value.nilFunc : Value).cells.size = 1 := by kernel_rfl
@[simp] theorem zc_29 : (Value.nilFunc : Value).cells.size = 1 := by kernel_rfl
@[simp] theorem zc_30 : (Value.nilFunc : Value).cells.size = 1 := by kernel_rfl
@[simp] theorem zc_31 : ((Value.tuple #[Value.string ⟨#[]⟩, Value.bool false]) : Value).cells.size = 1 := by kernel_rfl
@[simp] theorem zc_32 : (Value.nilFunc : Value).cells.size = 1 := by kernel_rfl
@[simp] theorem zc_33 : ((Value.tuple #[Value.agg #[Value.int IntKind.i64 0, Value.int IntKind.i64 0, Value.slice none 0 0], Value.slice none 0 0, Value.int IntKind.i64 0]) : Value).cells.size = 1 := by kernel_rfl
@[simp] theorem zc_34 : (Value.nilFunc : Value).cells.size = 1 := by kernel_rfl
@[simp] theorem zc_35 : (Value.nilFunc : Value).cells.size = 1 := by kernel_rfl
@[simp] theorem zc_36 : (Value.nilFunc : Value).cells.size = 1 := by kernel_rfl
@[simp] theorem zc_37 : (Value.nilFunc : Value).cells.size = 1 := by kernel_rfl
@[simp] theorem zc_38 : ((Value.agg #[Value.int IntKind.i64 0, Value.string ⟨#[]⟩, Value.int IntKind.i64 0, Value.int IntKind.i64 0, Value.bool false]) : Value).cells.size = 5 := by kernel_rfl
@[simp] theorem zc_39 : ((Value.agg #[Value.int IntKind.i64 0, Value.string ⟨#[]⟩, Value.int IntKind.i64 0, Value.int IntKind.i64 0, Value.bool false]) : Value).cells.size = 5 := by kernel_rfl
@[simp] theorem zc_40 : ((Value.slice none 0 0) : Value).cells.size = 1 := by kernel_rfl
@[simp] theorem zc_41 : ((Value.tuple #[Value.slice none 0 0, Value.slice none 0 0, Value.int IntKind.i64 0]) : Value).cells.size = 1 := by kernel_rfl
@[simp] theorem zc_42 : (Value.nilFunc : Value).cells.size = 1 := by kernel_rfl
@[simp] theorem zc_43 : ((Value.tuple #[Value.agg #[Value.int IntKind.i64 0, Value.int IntKind.i64 0, Value.slice none 0 0], Value.int IntKind.i64 0]) : Value).cells.size = 1 := by kernel_rfl
@[simp] theorem zc_44 : (Value.nilFunc : Value).cells.size = 1 := by kernel_rfl
@[simp] theorem zc_45 : ((Value.slice none 0 0) : Value).cells.size = 1 := by kernel_rfl
@[simp] theorem zc_46 : ((Value.pointer none) : Value).cells.size = 1 := by kernel_rfl
@[simp] theorem zc_47 : ((Value.agg #[Value.string ⟨#[]⟩, Value.int IntKind.i64 0, Value.int IntKind.i64 0, Value.slice none 0 0, Value.slice none 0 0, Value.int IntKind.i64 0]) : Value).cells.size = 6 := by kernel_rfl
@[simp] theorem zc_48 : ((Value.agg #[Value.string ⟨#[]⟩, Value.int IntKind.i64 0, Value.int IntKind.i64 0, Value.slice none 0 0, Value.slice none 0 0, Value.int IntKind.i64 0]) : Value).cells.size = 6 := by kernel_rfl
@[simp] theorem zc_49 : (Value.nilFunc : Value).cells.size = 1 := by kernel_rfl
@[simp] theorem zc_50 : (Value.nilFunc : Value).cells.size = 1 := by kernel_rfl
@[simp] theorem zc_51 : (Value.nilFunc : Value).cells.size = 1 := by kernel_rfl
@[simp] theorem zc_52 : ((Value.pointer none) : Value).cells.size = 1 := by kernel_rfl
@[simp] theorem zc_53 : ((Value.agg #[Value.slice none 0 0, Value.int IntKind.i64 0, Value.int IntKind.i64 0, Value.int IntKind.i64 0]) : Value).cells.size = 4 := by kernel_rfl
@[simp] theorem zc_54 : ((Value.agg #[Value.slice none 0 0, Value.int IntKind.i64 0, Value.int IntKind.i64 0, Value.int IntKind.i64 0]) : Value).cells.size = 4 := by kernel_rfl
@[simp] theorem zc_55 : (Value.nilFunc : Value).cells.size = 1 := by kernel_rfl
@[simp] theorem zc_56 : (Value.nilFunc : Value).cells.size = 1 := by kernel_rfl
@[simp] theorem zc_57 : ((Value.agg #[Value.string ⟨#[]⟩, Value.int IntKind.i64 0, Value.int IntKind.i64 0, Value.int IntKind.i64 0]) : Value).cells.size = 4 := by kernel_rfl
@[simp] theorem zc_58 : ((Value.agg #[Value.string ⟨#[]⟩, Value.int IntKind.i64 0, Value.int IntKind.i64 0, Value.int IntKind.i64 0]) : Value).cells.size = 4 := by kernel_rfl
@[simp] theorem zc_59 : (Value.nilFunc : Value).cells.size = 1 := by kernel_rfl
@[simp] theorem zc_60 : (Value.nilFunc : Value).cells.size = 1 := by kernel_rfl
@[simp] theorem zc_61 : (Value.nilFunc : Value).cells.size = 1 := by kernel_rfl
@[simp] theorem zc_62 : ((Value.tuple #[Value.int IntKind.i32 0, Value.int IntKind.i64 0]) : Value).cells.size = 1 := by kernel_rfl
@[simp] theorem zc_63 : (Value.nilFunc : Value).cells.size = 1 := by kernel_rfl
@[simp] theorem zc_64 : (Value.nilFunc : Value).cells.size = 1 := by kernel_rfl
@[simp] theorem zc_65 : (Value.nilFunc : Value).cells.size = 1 := by kernel_rfl
@[simp] theorem zc_66 : (Value.nilFunc : Value).cells.size = 1 := by kernel_rfl
@[simp] theorem zc_67 : (Value.nilFunc : Value).cells.size = 1 := by kernel_rfl
@[simp] theorem zc_68 : (Value.nilFunc : Value).cells.size = 1 := by kernel_rfl
@[simp] theorem zc_69 : (Value.nilFunc : Value).cells.size = 1 := by kernel_rfl
@[simp] theorem zc_70 : ((Value.tuple #[Value.string ⟨#[]⟩, Value.string ⟨#[]⟩, Value.bool false]) : Value).cells.size = 1 := by kernel_rfl
@[simp] theorem zc_71 : (Value.nilFunc : Value).cells.size = 1 := by kernel_rfl
@[simp] theorem zc_72 : (Value.nilFunc : Value).cells.size = 1 := by kernel_rfl
@[simp] theorem zc_73 : (Value.nilFunc : Value).cells.size = 1 := by kernel_rfl
@[simp] theorem zc_74 : (Value.nilFunc : Value).cells.size = 1 := by kernel_rfl
@[simp] theorem zc_75 : (Value.nilFunc : Value).cells.size = 1 := by kernel_rfl
@[simp] theorem zc_76 : ((Value.agg #[Value.int IntKind.u8 0, Value.int IntKind.u8 0, Value.int IntKind.u8 0, Value.int IntKind.u8 0, Value.int IntKind.u8 0, Value.int IntKind.u8 0, Value.int IntKind.u8 0, Value.int IntKind.u8 0, Value.int IntKind.u8 0, Value.int IntKind.u8 0, Value.int IntKind.u8 0, Value.int IntKind.u8 0, Value.int IntKind.u8 0, Value.int IntKind.u8 0, Value.int IntKind.u8 0, Value.int IntKind.u8 0, Value.int IntKind.u8 0, Value.int IntKind.u8 0, Value.int IntKind.u8 0, Value.int IntKind.u8 0, Value.int IntKind.u8 0, Value.int IntKind.u8 0, Value.int IntKind.u8 0, Value.int IntKind.u8 0, Value.int IntKind.u8 0, Value.int IntKind.u8 0, Value.int IntKind.u8 0, Value.int IntKind.u8 0, Value.int IntKind.u8 0, Value.int IntKind.u8 0, Value.int IntKind.u8 0, Value.int IntKind.u8 0, Value.int IntKind.u8 0, Value.int IntKind.u8 0, Value.int IntKind.u8 0, Value.int IntKind.u8 0, Value.int IntKind.u8 0, Value.int IntKind.u8 0, Value.int IntKind.u8 0, Value.int IntKind.u8 0, Value.int IntKind.u8 0, Value.int IntKind.u8 0, Value.int IntKind.u8 0, Value.int IntKind.u8 0, Value.int IntKind.u8 0, Value.int IntKind.u8 0, Value.int IntKind.u8 0, Value.int IntKind.u8 0, Value.int IntKind.u8 0, Value.int IntKind.u8 0, Value.int IntKind.u8 0, Value.int IntKind.u8 0, Value.int IntKind.u8 0, Value.int IntKind.u8 0, Value.int IntKind.u8 0, Value.int IntKind.u8 0, Value.int IntKind.u8 0, Value.int IntKind.u8 0, Value.int IntKind.u8 0, Value.int IntKind.u8 0, Value.int IntKind.u8 0, Value.int IntKind.u8 0, Value.int IntKind.u8 0, Value.int IntKind.u8 0, Value.int IntKind.u8 0, Value.int IntKind.u8 0, Value.int IntKind.u8 0, Value.int IntKind.u8 0, Value.int IntKind.u8 0, Value.int IntKind.u8 0, Value.int IntKind.u8 0, Value.int IntKind.u8 0, Value.int IntKind.u8 0, Value.int IntKind.u8 0, Value.int IntKind.u8 0, Value.int IntKind.u8 0, Value.int IntKind.u8 0, Value.int IntKind.u8 0, Value.int IntKind.u8 0, Value.int IntKind.u8 0, Value.int IntKind.u8 0, Value.int IntKind.u8 0, Value.int IntKind.u8 0, Value.int IntKind.u8 0, Value.int IntKind.u8 0, Value.int IntKind.u8 0, Value.int IntKind.u8 0, Value.int IntKind.u8 0, Value.int IntKind.u8 0, Value.int IntKind.u8 0, Value.int IntKind.u8 0, Value.int IntKind.u8 0, Value.int IntKind.u8 0, Value.int IntKind.u8 0, Value.int IntKind.u8 0, Value.int IntKind.u8 0, Value.int IntKind.u8 0, Value.int IntKind.u8 0, Value.int IntKind.u8 0, Value.int IntKind.u8 0, Value.int IntKind.u8 0, Value.int IntKind.u8 0, Value.int IntKind.u8 0, Value.int IntKind.u8 0, Value.int IntKind.u8 0, Value.int IntKind.u8 0, Value.int IntKind.u8 0, Value.int IntKind.u8 0, Value.int IntKind.u8 0, Value.int IntKind.u8 0, Value.int IntKind.u8 0, Value.int IntKind.u8 0, Value.int IntKind.u8 0, Value.int IntKind.u8 0, Value.int IntKind.u8 0, Value.int IntKind.u8 0, Value.int IntKind.u8 0, Value.int IntKind.u8 0, Value.int IntKind.u8 0, Value.int IntKind.u8 0, Value.int IntKind.u8 0, Value.int IntKind.u8 0, Value.int IntKind.u8 0, Value.int IntKind.u8 0, Value.int IntKind.u8 0, Value.int IntKind.u8 0, Value.int IntKind.u8 0, Value.int IntKind.u8 0, Value.int IntKind.u8 0, Value.int IntKind.u8 0, Value.int IntKind.u8 0, Value.int IntKind.u8 0, Value.int IntKind.u8 0, Value.int IntKind.u8 0, Value.int IntKind.u8 0, Value.int IntKind.u8 0, Value.int IntKind.u8 0, Value.int IntKind.u8 0, Value.int IntKind.u8 0, Value.int IntKind.u8 0, Value.int IntKind.u8 0, Value.int IntKind.u8 0, Value.int IntKind.u8 0, Value.int IntKind.u8 0, Value.int IntKind.u8 0, Value.int IntKind.u8 0, Value.int IntKind.u8 0, Value.int IntKind.u8 0, Value.int IntKind.u8 0, Value.int IntKind.u8 0, Value.int IntKind.u8 0, Value.int IntKind.u8 0, Value.int IntKind.u8 0, Value.int IntKind.u8 0, Value.int IntKind.u8 0, Value.int IntKind.u8 0, Value.int IntKind.u8 0, Value.int IntKind.u8 0, Value.int IntKind.u8 0, Value.int IntKind.u8 0, Value.int IntKind.u8 0, Value.int IntKind.u8 0, Value.int IntKind.u8 0, Value.int IntKind.u8 0, Value.int IntKind.u8 0, Value.int IntKind.u8 0, Value.int IntKind.u8 0, Value.int IntKind.u8 0, Value.int IntKind.u8 0, Value.int IntKind.u8 0, Value.int IntKind.u8 0, Value.int IntKind.u8 0, Value.int IntKind.u8 0, Value.int IntKind.u8 0, Value.int IntKind.u8 0, Value.int IntKind.u8 0, Value.int IntKind.u8 0, Value.int IntKind.u8 0, Value.int IntKind.u8 0, Value.int IntKind.u8 0, Value.int IntKind.u8 0, Value.int IntKind.u8 0, Value.int IntKind.u8 0, Value.int IntKind.u8 0, Value.int IntKind.u8 0, Value.int IntKind.u8 0, Value.int IntKind.u8 0, Value.int IntKind.u8 0, Value.int IntKind.u8 0, Value.int IntKind.u8 0, Value.int IntKind.u8 0, Value.int IntKind.u8 0, Value.int IntKind.u8 0, Value.int IntKind.u8 0, Value.int IntKind.u8 0, Value.int IntKind.u8 0, Value.int IntKind.u8 0, Value.int IntKind.u8 0, Value.int IntKind.u8 0, Value.int IntKind.u8 0, Value.int IntKind.u8 0, Value.int IntKind.u8 0, Value.int IntKind.u8 0, Value.int IntKind.u8 0, Value.int IntKind.u8 0, Value.int IntKind.u8 0, Value.int IntKind.u8 0, Value.int IntKind.u8 0, Value.int IntKind.u8 0, Value.int IntKind.u8 0, Value.int IntKind.u8 0, Value.int IntKind.u8 0, Value.int IntKind.u8 0, Value.int IntKind.u8 0, Value.int IntKind.u8 0, Value.int IntKind.u8 0, Value.int IntKind.u8 0, Value.int IntKind.u8 0, Value.int IntKind.u8 0, Value.int IntKind.u8 0, Value.int IntKind.u8 0, Value.int IntKind.u8 0, Value.int IntKind.u8 0, Value.int IntKind.u8 0, Value.int IntKind.u8 0, Value.int IntKind.u8 0, Value.int IntKind.u8 0, Value.int IntKind.u8 0, Value.int IntKind.u8 0, Value.int IntKind.u8 0, Value.int IntKind.u8 0, Value.int IntKind.u8 0, Value.int IntKind.u8 0, Value.int IntKind.u8 0, Value.int IntKind.u8 0, Value.int IntKind.u8 0, Value.int IntKind.u8 0, Value.int IntKind.u8 0, Value.int IntKind.u8 0, Value.int IntKind.u8 0, Value.int IntKind.u8 0, Value.int IntKind.u8 0, Value.int IntKind.u8 0, Value.int IntKind.u8 0, Value.int IntKind.u8 0, Value.int IntKind.u8 0, Value.int IntKind.u8 0, Value.int IntKind.u8 0, Value.int IntKind.u8 0, Value.int IntKind.u8 0, Value.int IntKind.u8 0, Value.int IntKind.u8 0, Value.int IntKind.u8 0, Value.int IntKind.u8 0, Value.int IntKind.u8 0, Value.int IntKind.u8 0]) : Value).cells.size = 256 := by kernel_rfl
@[simp] theorem zc_77 : ((Value.int IntKind.u64 0) : Value).cells.size = 1 := by kernel_rfl
@[simp] theorem zc_78 : ((Value.agg #[Value.int IntKind.u8 0, Value.int IntKind.u8 0]) : Value).cells.size = 2 := by kernel_rfl
@[simp] theorem zc_79 : ((Value.agg #[Value.int IntKind.u8 0, Value.int IntKind.u8 0]) : Value).cells.size = 2 := by kernel_rfl
@[simp] theorem zc_80 : ((Value.agg #[Value.int IntKind.u8 0, Value.int IntKind.u8 0, Value.int IntKind.u8 0, Value.int IntKind.u8 0, Value.int IntKind.u8 0, Value.int IntKind.u8 0, Value.int IntKind.u8 0, Value.int IntKind.u8 0, Value.int IntKind.u8 0, Value.int IntKind.u8 0, Value.int IntKind.u8 0, Value.int IntKind.u8 0, Value.int IntKind.u8 0, Value.int IntKind.u8 0, Value.int IntKind.u8 0, Value.int IntKind.u8 0, Value.int IntKind.u8 0, Value.int IntKind.u8 0, Value.int IntKind.u8 0, Value.int IntKind.u8 0, Value.int IntKind.u8 0, Value.int IntKind.u8 0, Value.int IntKind.u8 0, Value.int IntKind.u8 0, Value.int IntKind.u8 0, Value.int IntKind.u8 0, Value.int IntKind.u8 0, Value.int IntKind.u8 0, Value.int IntKind.u8 0, Value.int IntKind.u8 0, Value.int IntKind.u8 0, Value.int IntKind.u8 0]) : Value).cells.size = 32 := by kernel_rfl
@[simp] theorem zc_81 : (Value.nilFunc : Value).cells.size = 1 := by kernel_rfl
@[simp] theorem zc_82 : (Value.nilFunc : Value).cells.size = 1 := by kernel_rfl
@[simp] theorem zc_83 : (Value.nilFunc : Value).cells.size = 1 := by kernel_rfl
@[simp] theorem zc_84 : (Value.nilFunc : Value).cells.size = 1 := by kernel_rfl
@[simp] theorem zc_85 : ((Value.int IntKind.u32 0) : Value).cells.size = 1 := by kernel_rfl
@[simp] theorem zc_86 : ((Value.tuple #[Value.int IntKind.u32 0, Value.int IntKind.u32 0]) : Value).cells.size = 1 := by kernel_rfl
@[simp] theorem zc_87 : (Value.nilFunc : Value).cells.size = 1 := by kernel_rfl
@[simp] theorem zc_88 : (Value.nilFunc : Value).cells.size = 1 := by kernel_rfl
@[simp] theorem zc_89 : ((Value.agg #[Value.pointer none, Value.pointer none, Value.pointer none, Value.string ⟨#[]⟩]) : Value).cells.size = 4 := by kernel_rfl
@[simp] theorem zc_90 : ((Value.agg #[Value.pointer none, Value.pointer none, Value.pointer none, Value.string ⟨#[]⟩]) : Value).cells.size = 4 := by kernel_rfl
@[simp] theorem zc_91 : ((Value.agg #[]) : Value).cells.size = 0 := by kernel_rfl
@[simp] theorem zc_92 : ((Value.agg #[]) : Value).cells.size = 0 := by kernel_rfl
@[simp] theorem zc_93 : ((Value.agg #[]) : Value).cells.size = 0 := by kernel_rfl
@[simp] theorem zc_94 : ((Value.int IntKind.u8 0) : Value).cells.size = 1 := by kernel_rfl
@[simp] theorem zc_95 : ((Value.int IntKind.u8 0) : Value).cells.size = 1 := by kernel_rfl
@[simp] theorem zc_96 : (Value.nilFunc : Value).cells.size = 1 := by kernel_rfl
@[simp] theorem zc_97 : ((Value.pointer none) : Value).cells.size = 1 := by kernel_rfl
@[simp] theorem zc_98 : ((Value.int IntKind.i32 0) : Value).cells.size = 1 := by kernel_rfl
@[simp] theorem zc_99 : ((Value.int IntKind.i32 0) : Value).cells.size = 1 := by kernel_rfl
@[simp] theorem zc_100 : ((Value.agg #[Value.int IntKind.u64 0, Value.int IntKind.u64 0, Value.int IntKind.u32 0, Value.int IntKind.u8 0, Value.int IntKind.u8 0, Value.int IntKind.u8 0, Value.int IntKind.u8 0, Value.nilFunc, Value.pointer none, Value.int IntKind.i32 0, Value.int IntKind.i32 0]) : Value).cells.size = 11 := by kernel_rfl
@[simp] theorem zc_101 : ((Value.agg #[Value.int IntKind.u64 0, Value.int IntKind.u64 0, Value.int IntKind.u32 0, Value.int IntKind.u8 0, Value.int IntKind.u8 0, Value.int IntKind.u8 0, Value.int IntKind.u8 0, Value.nilFunc, Value.pointer none, Value.int IntKind.i32 0, Value.int IntKind.i32 0]) : Value).cells.size = 11 := by kernel_rfl
@[simp] theorem zc_102 : ((Value.pointer none) : Value).cells.size = 1 := by kernel_rfl
@[simp] theorem mixed : prog.follows .mixedOrders = true := by kernel_rfl
end Go.Proofs.Tryd
