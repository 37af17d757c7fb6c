/- Part of the proof: contracts of the functions, walked by the D-machine. No condition. -/
import Derived.Test.YtcacihiiilemgaaDmU
import Derived.Test.YtcacihiiilemgaaProg
set_option linter.unusedSimpArgs false
namespace Go.Proofs.Try
open Go Go.Proofs Go.Proofs.Dm
@[simp] theorem tsz_0 : tsz prog 0 = some 1 := by kernel_rfl
@[simp] theorem tagg_0 : tagg prog 0 = some false := by kernel_rfl
@[simp] theorem tcells_0 : tcells prog 0 = [0] := by kernel_rfl
@[simp] theorem tslice_0 : tslice prog 0 = none := by kernel_rfl
@[simp] theorem tkind_0 : tkind prog 0 = some 4 := by kernel_rfl
@[simp] theorem tint_0 : tint prog 0 = none := by kernel_rfl
@[simp] theorem tbytes_0 : tbytes prog 0 = some 0 := by kernel_rfl
@[simp] theorem tplaces_0 : tplaces prog 0 = none := by kernel_rfl
@[simp] theorem tzero_0 : tzero prog 0 = some (Value.tuple #[]) := by kernel_rfl
@[simp] theorem tsz_1 : tsz prog 1 = some 1 := by kernel_rfl
@[simp] theorem tagg_1 : tagg prog 1 = some false := by kernel_rfl
@[simp] theorem tcells_1 : tcells prog 1 = [1] := by kernel_rfl
@[simp] theorem tslice_1 : tslice prog 1 = none := by kernel_rfl
@[simp] theorem tkind_1 : tkind prog 1 = some 4 := by kernel_rfl
@[simp] theorem tint_1 : tint prog 1 = none := by kernel_rfl
@[simp] theorem tbytes_1 : tbytes prog 1 = some 8 := by kernel_rfl
@[simp] theorem tplaces_1 : tplaces prog 1 = none := by kernel_rfl
@[simp] theorem tzero_1 : tzero prog 1 = some Value.nilFunc := by kernel_rfl
@[simp] theorem tsz_2 : tsz prog 2 = some 1 := by kernel_rfl
@[simp] theorem tagg_2 : tagg prog 2 = some false := by kernel_rfl
@[simp] theorem tcells_2 : tcells prog 2 = [2] := by kernel_rfl
@[simp] theorem tslice_2 : tslice prog 2 = none := by kernel_rfl
@[simp] theorem tkind_2 : tkind prog 2 = some 2 := by kernel_rfl
@[simp] theorem tint_2 : tint prog 2 = some IntKind.i64 := by kernel_rfl
@[simp] theorem tbytes_2 : tbytes prog 2 = some 8 := by kernel_rfl
@[simp] theorem tplaces_2 : tplaces prog 2 = none := by kernel_rfl
@[simp] theorem tzero_2 : tzero prog 2 = some (Value.int IntKind.i64 0) := by kernel_rfl
@[simp] theorem tsz_3 : tsz prog 3 = some 1 := by kernel_rfl
@[simp] theorem tagg_3 : tagg prog 3 = some false := by kernel_rfl
@[simp] theorem tcells_3 : tcells prog 3 = [3] := by kernel_rfl
@[simp] theorem tslice_3 : tslice prog 3 = none := by kernel_rfl
@[simp] theorem tkind_3 : tkind prog 3 = some 2 := by kernel_rfl
@[simp] theorem tint_3 : tint prog 3 = some IntKind.i64 := by kernel_rfl
@[simp] theorem tbytes_3 : tbytes prog 3 = some 8 := by kernel_rfl
@[simp] theorem tplaces_3 : tplaces prog 3 = none := by kernel_rfl
@[simp] theorem tzero_3 : tzero prog 3 = some (Value.int IntKind.i64 0) := by kernel_rfl
@[simp] theorem tsz_4 : tsz prog 4 = some 1 := by kernel_rfl
@[simp] theorem tagg_4 : tagg prog 4 = some false := by kernel_rfl
@[simp] theorem tcells_4 : tcells prog 4 = [4] := by kernel_rfl
@[simp] theorem tslice_4 : tslice prog 4 = none := by kernel_rfl
@[simp] theorem tkind_4 : tkind prog 4 = some 1 := by kernel_rfl
@[simp] theorem tint_4 : tint prog 4 = none := by kernel_rfl
@[simp] theorem tbytes_4 : tbytes prog 4 = some 1 := by kernel_rfl
@[simp] theorem tplaces_4 : tplaces prog 4 = none := by kernel_rfl
@[simp] theorem tzero_4 : tzero prog 4 = some (Value.bool false) := by kernel_rfl
@[simp] theorem tsz_5 : tsz prog 5 = some 1 := by kernel_rfl
@[simp] theorem tagg_5 : tagg prog 5 = some false := by kernel_rfl
@[simp] theorem tcells_5 : tcells prog 5 = [5] := by kernel_rfl
@[simp] theorem tslice_5 : tslice prog 5 = none := by kernel_rfl
@[simp] theorem tkind_5 : tkind prog 5 = some 2 := by kernel_rfl
@[simp] theorem tint_5 : tint prog 5 = some IntKind.u8 := by kernel_rfl
@[simp] theorem tbytes_5 : tbytes prog 5 = some 1 := by kernel_rfl
@[simp] theorem tplaces_5 : tplaces prog 5 = none := by kernel_rfl
@[simp] theorem tzero_5 : tzero prog 5 = some (Value.int IntKind.u8 0) := by kernel_rfl
@[simp] theorem tsz_6 : tsz prog 6 = some 1 := by kernel_rfl
@[simp] theorem tagg_6 : tagg prog 6 = some false := by kernel_rfl
@[simp] theorem tcells_6 : tcells prog 6 = [6] := by kernel_rfl
@[simp] theorem tslice_6 : tslice prog 6 = none := by kernel_rfl
@[simp] theorem tkind_6 : tkind prog 6 = some 2 := by kernel_rfl
@[simp] theorem tint_6 : tint prog 6 = some IntKind.u8 := by kernel_rfl
@[simp] theorem tbytes_6 : tbytes prog 6 = some 1 := by kernel_rfl
@[simp] theorem tplaces_6 : tplaces prog 6 = none := by kernel_rfl
@[simp] theorem tzero_6 : tzero prog 6 = some (Value.int IntKind.u8 0) := by kernel_rfl
@[simp] theorem tsz_7 : tsz prog 7 = some 4 := by kernel_rfl
@[simp] theorem tagg_7 : tagg prog 7 = some true := by kernel_rfl
@[simp] theorem tcells_7 : tcells prog 7 = [2, 3, 4, 6] := by kernel_rfl
@[simp] theorem tslice_7 : tslice prog 7 = none := by kernel_rfl
@[simp] theorem tkind_7 : tkind prog 7 = some 4 := by kernel_rfl
@[simp] theorem tint_7 : tint prog 7 = none := by kernel_rfl
@[simp] theorem tbytes_7 : tbytes prog 7 = some 24 := by kernel_rfl
@[simp] theorem tplaces_7 : tplaces prog 7 = some [(0, 1), (1, 1), (2, 1), (3, 1)] := by kernel_rfl
@[simp] theorem tzero_7 : tzero prog 7 = some (Value.agg #[Value.int IntKind.i64 0, Value.int IntKind.i64 0, Value.bool false, Value.int IntKind.u8 0]) := by kernel_rfl
@[simp] theorem tfield_7_0 : tfield prog 7 0 = some (0, 1, false) := by kernel_rfl
@[simp] theorem tfield_7_1 : tfield prog 7 1 = some (1, 1, false) := by kernel_rfl
@[simp] theorem tfield_7_2 : tfield prog 7 2 = some (2, 1, false) := by kernel_rfl
@[simp] theorem tfield_7_3 : tfield prog 7 3 = some (3, 1, false) := by kernel_rfl
@[simp] theorem tsz_8 : tsz prog 8 = some 4 := by kernel_rfl
@[simp] theorem tagg_8 : tagg prog 8 = some true := by kernel_rfl
@[simp] theorem tcells_8 : tcells prog 8 = [2, 3, 4, 6] := by kernel_rfl
@[simp] theorem tslice_8 : tslice prog 8 = none := by kernel_rfl
@[simp] theorem tkind_8 : tkind prog 8 = some 4 := by kernel_rfl
@[simp] theorem tint_8 : tint prog 8 = none := by kernel_rfl
@[simp] theorem tbytes_8 : tbytes prog 8 = some 24 := by kernel_rfl
@[simp] theorem tplaces_8 : tplaces prog 8 = some [(0, 1), (1, 1), (2, 1), (3, 1)] := by kernel_rfl
@[simp] theorem tzero_8 : tzero prog 8 = some (Value.agg #[Value.int IntKind.i64 0, Value.int IntKind.i64 0, Value.bool false, Value.int IntKind.u8 0]) := by kernel_rfl
@[simp] theorem tfield_8_0 : tfield prog 8 0 = some (0, 1, false) := by kernel_rfl
@[simp] theorem tfield_8_1 : tfield prog 8 1 = some (1, 1, false) := by kernel_rfl
@[simp] theorem tfield_8_2 : tfield prog 8 2 = some (2, 1, false) := by kernel_rfl
@[simp] theorem tfield_8_3 : tfield prog 8 3 = some (3, 1, false) := by kernel_rfl
@[simp] theorem tsz_9 : tsz prog 9 = some 1 := by kernel_rfl
@[simp] theorem tagg_9 : tagg prog 9 = some false := by kernel_rfl
@[simp] theorem tcells_9 : tcells prog 9 = [9] := by kernel_rfl
@[simp] theorem tslice_9 : tslice prog 9 = none := by kernel_rfl
@[simp] theorem tkind_9 : tkind prog 9 = some 0 := by kernel_rfl
@[simp] theorem tint_9 : tint prog 9 = none := by kernel_rfl
@[simp] theorem tbytes_9 : tbytes prog 9 = some 16 := by kernel_rfl
@[simp] theorem tplaces_9 : tplaces prog 9 = none := by kernel_rfl
@[simp] theorem tzero_9 : tzero prog 9 = some (Value.string ⟨#[]⟩) := by kernel_rfl
@[simp] theorem tsz_10 : tsz prog 10 = some 1 := by kernel_rfl
@[simp] theorem tagg_10 : tagg prog 10 = some false := by kernel_rfl
@[simp] theorem tcells_10 : tcells prog 10 = [10] := by kernel_rfl
@[simp] theorem tslice_10 : tslice prog 10 = none := by kernel_rfl
@[simp] theorem tkind_10 : tkind prog 10 = some 0 := by kernel_rfl
@[simp] theorem tint_10 : tint prog 10 = none := by kernel_rfl
@[simp] theorem tbytes_10 : tbytes prog 10 = some 16 := by kernel_rfl
@[simp] theorem tplaces_10 : tplaces prog 10 = none := by kernel_rfl
@[simp] theorem tzero_10 : tzero prog 10 = some (Value.string ⟨#[]⟩) := by kernel_rfl
@[simp] theorem tsz_11 : tsz prog 11 = some 1 := by kernel_rfl
@[simp] theorem tagg_11 : tagg prog 11 = some false := by kernel_rfl
@[simp] theorem tcells_11 : tcells prog 11 = [11] := by kernel_rfl
@[simp] theorem tslice_11 : tslice prog 11 = none := by kernel_rfl
@[simp] theorem tkind_11 : tkind prog 11 = some 0 := by kernel_rfl
@[simp] theorem tint_11 : tint prog 11 = none := by kernel_rfl
@[simp] theorem tbytes_11 : tbytes prog 11 = some 16 := by kernel_rfl
@[simp] theorem tplaces_11 : tplaces prog 11 = none := by kernel_rfl
@[simp] theorem tzero_11 : tzero prog 11 = some (Value.string ⟨#[]⟩) := by kernel_rfl
@[simp] theorem tsz_12 : tsz prog 12 = some 1 := by kernel_rfl
@[simp] theorem tagg_12 : tagg prog 12 = some false := by kernel_rfl
@[simp] theorem tcells_12 : tcells prog 12 = [12] := by kernel_rfl
@[simp] theorem tslice_12 : tslice prog 12 = none := by kernel_rfl
@[simp] theorem tkind_12 : tkind prog 12 = some 2 := by kernel_rfl
@[simp] theorem tint_12 : tint prog 12 = some IntKind.u64 := by kernel_rfl
@[simp] theorem tbytes_12 : tbytes prog 12 = some 8 := by kernel_rfl
@[simp] theorem tplaces_12 : tplaces prog 12 = none := by kernel_rfl
@[simp] theorem tzero_12 : tzero prog 12 = some (Value.int IntKind.u64 0) := by kernel_rfl
@[simp] theorem tsz_13 : tsz prog 13 = some 2 := by kernel_rfl
@[simp] theorem tagg_13 : tagg prog 13 = some true := by kernel_rfl
@[simp] theorem tcells_13 : tcells prog 13 = [9, 12] := by kernel_rfl
@[simp] theorem tslice_13 : tslice prog 13 = none := by kernel_rfl
@[simp] theorem tkind_13 : tkind prog 13 = some 4 := by kernel_rfl
@[simp] theorem tint_13 : tint prog 13 = none := by kernel_rfl
@[simp] theorem tbytes_13 : tbytes prog 13 = some 24 := by kernel_rfl
@[simp] theorem tplaces_13 : tplaces prog 13 = some [(0, 1), (1, 1)] := by kernel_rfl
@[simp] theorem tzero_13 : tzero prog 13 = some (Value.agg #[Value.string ⟨#[]⟩, Value.int IntKind.u64 0]) := by kernel_rfl
@[simp] theorem tfield_13_0 : tfield prog 13 0 = some (0, 1, false) := by kernel_rfl
@[simp] theorem tfield_13_1 : tfield prog 13 1 = some (1, 1, false) := by kernel_rfl
@[simp] theorem tsz_14 : tsz prog 14 = some 2 := by kernel_rfl
@[simp] theorem tagg_14 : tagg prog 14 = some true := by kernel_rfl
@[simp] theorem tcells_14 : tcells prog 14 = [9, 12] := by kernel_rfl
@[simp] theorem tslice_14 : tslice prog 14 = none := by kernel_rfl
@[simp] theorem tkind_14 : tkind prog 14 = some 4 := by kernel_rfl
@[simp] theorem tint_14 : tint prog 14 = none := by kernel_rfl
@[simp] theorem tbytes_14 : tbytes prog 14 = some 24 := by kernel_rfl
@[simp] theorem tplaces_14 : tplaces prog 14 = some [(0, 1), (1, 1)] := by kernel_rfl
@[simp] theorem tzero_14 : tzero prog 14 = some (Value.agg #[Value.string ⟨#[]⟩, Value.int IntKind.u64 0]) := by kernel_rfl
@[simp] theorem tfield_14_0 : tfield prog 14 0 = some (0, 1, false) := by kernel_rfl
@[simp] theorem tfield_14_1 : tfield prog 14 1 = some (1, 1, false) := by kernel_rfl
@[simp] theorem tsz_15 : tsz prog 15 = some 1 := by kernel_rfl
@[simp] theorem tagg_15 : tagg prog 15 = some false := by kernel_rfl
@[simp] theorem tcells_15 : tcells prog 15 = [15] := by kernel_rfl
@[simp] theorem tslice_15 : tslice prog 15 = none := by kernel_rfl
@[simp] theorem tkind_15 : tkind prog 15 = some 5 := by kernel_rfl
@[simp] theorem tint_15 : tint prog 15 = none := by kernel_rfl
@[simp] theorem tbytes_15 : tbytes prog 15 = some 8 := by kernel_rfl
@[simp] theorem tplaces_15 : tplaces prog 15 = none := by kernel_rfl
@[simp] theorem tzero_15 : tzero prog 15 = some (Value.pointer none) := by kernel_rfl
@[simp] theorem tsz_16 : tsz prog 16 = some 1 := by kernel_rfl
@[simp] theorem tagg_16 : tagg prog 16 = some false := by kernel_rfl
@[simp] theorem tcells_16 : tcells prog 16 = [16] := by kernel_rfl
@[simp] theorem tslice_16 : tslice prog 16 = none := by kernel_rfl
@[simp] theorem tkind_16 : tkind prog 16 = some 5 := by kernel_rfl
@[simp] theorem tint_16 : tint prog 16 = none := by kernel_rfl
@[simp] theorem tbytes_16 : tbytes prog 16 = some 8 := by kernel_rfl
@[simp] theorem tplaces_16 : tplaces prog 16 = none := by kernel_rfl
@[simp] theorem tzero_16 : tzero prog 16 = some (Value.pointer none) := by kernel_rfl
@[simp] theorem tsz_17 : tsz prog 17 = some 1 := by kernel_rfl
@[simp] theorem tagg_17 : tagg prog 17 = some false := by kernel_rfl
@[simp] theorem tcells_17 : tcells prog 17 = [17] := by kernel_rfl
@[simp] theorem tslice_17 : tslice prog 17 = none := by kernel_rfl
@[simp] theorem tkind_17 : tkind prog 17 = some 5 := by kernel_rfl
@[simp] theorem tint_17 : tint prog 17 = none := by kernel_rfl
@[simp] theorem tbytes_17 : tbytes prog 17 = some 8 := by kernel_rfl
@[simp] theorem tplaces_17 : tplaces prog 17 = none := by kernel_rfl
@[simp] theorem tzero_17 : tzero prog 17 = some (Value.pointer none) := by kernel_rfl
@[simp] theorem tsz_18 : tsz prog 18 = some 1 := by kernel_rfl
@[simp] theorem tagg_18 : tagg prog 18 = some true := by kernel_rfl
@[simp] theorem tcells_18 : tcells prog 18 = [17] := by kernel_rfl
@[simp] theorem tslice_18 : tslice prog 18 = none := by kernel_rfl
@[simp] theorem tkind_18 : tkind prog 18 = some 4 := by kernel_rfl
@[simp] theorem tint_18 : tint prog 18 = none := by kernel_rfl
@[simp] theorem tbytes_18 : tbytes prog 18 = some 8 := by kernel_rfl
@[simp] theorem tplaces_18 : tplaces prog 18 = some [(0, 1)] := by kernel_rfl
@[simp] theorem tzero_18 : tzero prog 18 = some (Value.agg #[Value.pointer none]) := by kernel_rfl
@[simp] theorem tfield_18_0 : tfield prog 18 0 = some (0, 1, false) := by kernel_rfl
@[simp] theorem tsz_19 : tsz prog 19 = some 1 := by kernel_rfl
@[simp] theorem tagg_19 : tagg prog 19 = some true := by kernel_rfl
@[simp] theorem tcells_19 : tcells prog 19 = [17] := by kernel_rfl
@[simp] theorem tslice_19 : tslice prog 19 = none := by kernel_rfl
@[simp] theorem tkind_19 : tkind prog 19 = some 4 := by kernel_rfl
@[simp] theorem tint_19 : tint prog 19 = none := by kernel_rfl
@[simp] theorem tbytes_19 : tbytes prog 19 = some 8 := by kernel_rfl
@[simp] theorem tplaces_19 : tplaces prog 19 = some [(0, 1)] := by kernel_rfl
@[simp] theorem tzero_19 : tzero prog 19 = some (Value.agg #[Value.pointer none]) := by kernel_rfl
@[simp] theorem tfield_19_0 : tfield prog 19 0 = some (0, 1, false) := by kernel_rfl
@[simp] theorem tsz_20 : tsz prog 20 = some 1 := by kernel_rfl
@[simp] theorem tagg_20 : tagg prog 20 = some false := by kernel_rfl
@[simp] theorem tcells_20 : tcells prog 20 = [20] := by kernel_rfl
@[simp] theorem tslice_20 : tslice prog 20 = none := by kernel_rfl
@[simp] theorem tkind_20 : tkind prog 20 = some 4 := by kernel_rfl
@[simp] theorem tint_20 : tint prog 20 = none := by kernel_rfl
@[simp] theorem tbytes_20 : tbytes prog 20 = some 16 := by kernel_rfl
@[simp] theorem tplaces_20 : tplaces prog 20 = none := by kernel_rfl
@[simp] theorem tzero_20 : tzero prog 20 = some Value.nilIface := by kernel_rfl
@[simp] theorem tsz_21 : tsz prog 21 = some 1 := by kernel_rfl
@[simp] theorem tagg_21 : tagg prog 21 = some false := by kernel_rfl
@[simp] theorem tcells_21 : tcells prog 21 = [21] := by kernel_rfl
@[simp] theorem tslice_21 : tslice prog 21 = none := by kernel_rfl
@[simp] theorem tkind_21 : tkind prog 21 = some 2 := by kernel_rfl
@[simp] theorem tint_21 : tint prog 21 = some IntKind.i32 := by kernel_rfl
@[simp] theorem tbytes_21 : tbytes prog 21 = some 4 := by kernel_rfl
@[simp] theorem tplaces_21 : tplaces prog 21 = none := by kernel_rfl
@[simp] theorem tzero_21 : tzero prog 21 = some (Value.int IntKind.i32 0) := by kernel_rfl
@[simp] theorem tsz_22 : tsz prog 22 = some 1 := by kernel_rfl
@[simp] theorem tagg_22 : tagg prog 22 = some false := by kernel_rfl
@[simp] theorem tcells_22 : tcells prog 22 = [22] := by kernel_rfl
@[simp] theorem tslice_22 : tslice prog 22 = some 28 := by kernel_rfl
@[simp] theorem tkind_22 : tkind prog 22 = some 3 := by kernel_rfl
@[simp] theorem tint_22 : tint prog 22 = none := by kernel_rfl
@[simp] theorem tbytes_22 : tbytes prog 22 = some 24 := by kernel_rfl
@[simp] theorem tplaces_22 : tplaces prog 22 = none := by kernel_rfl
@[simp] theorem tzero_22 : tzero prog 22 = some (Value.slice none 0 0) := by kernel_rfl
@[simp] theorem tsz_23 : tsz prog 23 = some 1 := by kernel_rfl
@[simp] theorem tagg_23 : tagg prog 23 = some false := by kernel_rfl
@[simp] theorem tcells_23 : tcells prog 23 = [23] := by kernel_rfl
@[simp] theorem tslice_23 : tslice prog 23 = none := by kernel_rfl
@[simp] theorem tkind_23 : tkind prog 23 = some 4 := by kernel_rfl
@[simp] theorem tint_23 : tint prog 23 = none := by kernel_rfl
@[simp] theorem tbytes_23 : tbytes prog 23 = some 8 := by kernel_rfl
@[simp] theorem tplaces_23 : tplaces prog 23 = none := by kernel_rfl
@[simp] theorem tzero_23 : tzero prog 23 = some Value.nilFunc := by kernel_rfl
@[simp] theorem tsz_24 : tsz prog 24 = some 1 := by kernel_rfl
@[simp] theorem tagg_24 : tagg prog 24 = some false := by kernel_rfl
@[simp] theorem tcells_24 : tcells prog 24 = [24] := by kernel_rfl
@[simp] theorem tslice_24 : tslice prog 24 = none := by kernel_rfl
@[simp] theorem tkind_24 : tkind prog 24 = some 5 := by kernel_rfl
@[simp] theorem tint_24 : tint prog 24 = none := by kernel_rfl
@[simp] theorem tbytes_24 : tbytes prog 24 = some 8 := by kernel_rfl
@[simp] theorem tplaces_24 : tplaces prog 24 = none := by kernel_rfl
@[simp] theorem tzero_24 : tzero prog 24 = some (Value.pointer none) := by kernel_rfl
@[simp] theorem tsz_25 : tsz prog 25 = some 1 := by kernel_rfl
@[simp] theorem tagg_25 : tagg prog 25 = some false := by kernel_rfl
@[simp] theorem tcells_25 : tcells prog 25 = [25] := by kernel_rfl
@[simp] theorem tslice_25 : tslice prog 25 = none := by kernel_rfl
@[simp] theorem tkind_25 : tkind prog 25 = some 4 := by kernel_rfl
@[simp] theorem tint_25 : tint prog 25 = none := by kernel_rfl
@[simp] theorem tbytes_25 : tbytes prog 25 = some 8 := by kernel_rfl
@[simp] theorem tplaces_25 : tplaces prog 25 = none := by kernel_rfl
@[simp] theorem tzero_25 : tzero prog 25 = some Value.nilFunc := by kernel_rfl
@[simp] theorem tsz_26 : tsz prog 26 = some 1 := by kernel_rfl
@[simp] theorem tagg_26 : tagg prog 26 = some false := by kernel_rfl
@[simp] theorem tcells_26 : tcells prog 26 = [26] := by kernel_rfl
@[simp] theorem tslice_26 : tslice prog 26 = some 4 := by kernel_rfl
@[simp] theorem tkind_26 : tkind prog 26 = some 3 := by kernel_rfl
@[simp] theorem tint_26 : tint prog 26 = none := by kernel_rfl
@[simp] theorem tbytes_26 : tbytes prog 26 = some 24 := by kernel_rfl
@[simp] theorem tplaces_26 : tplaces prog 26 = none := by kernel_rfl
@[simp] theorem tzero_26 : tzero prog 26 = some (Value.slice none 0 0) := by kernel_rfl
@[simp] theorem tsz_27 : tsz prog 27 = some 3 := by kernel_rfl
@[simp] theorem tagg_27 : tagg prog 27 = some true := by kernel_rfl
@[simp] theorem tcells_27 : tcells prog 27 = [3, 3, 3] := by kernel_rfl
@[simp] theorem tslice_27 : tslice prog 27 = none := by kernel_rfl
@[simp] theorem tkind_27 : tkind prog 27 = some 4 := by kernel_rfl
@[simp] theorem tint_27 : tint prog 27 = none := by kernel_rfl
@[simp] theorem tbytes_27 : tbytes prog 27 = some 24 := by kernel_rfl
@[simp] theorem tplaces_27 : tplaces prog 27 = some [(0, 1), (1, 1), (2, 1)] := by kernel_rfl
@[simp] theorem tzero_27 : tzero prog 27 = some (Value.agg #[Value.int IntKind.i64 0, Value.int IntKind.i64 0, Value.int IntKind.i64 0]) := by kernel_rfl
@[simp] theorem tfield_27_0 : tfield prog 27 0 = some (0, 1, false) := by kernel_rfl
@[simp] theorem tfield_27_1 : tfield prog 27 1 = some (1, 1, false) := by kernel_rfl
@[simp] theorem tfield_27_2 : tfield prog 27 2 = some (2, 1, false) := by kernel_rfl
@[simp] theorem tsz_28 : tsz prog 28 = some 3 := by kernel_rfl
@[simp] theorem tagg_28 : tagg prog 28 = some true := by kernel_rfl
@[simp] theorem tcells_28 : tcells prog 28 = [3, 3, 3] := by kernel_rfl
@[simp] theorem tslice_28 : tslice prog 28 = none := by kernel_rfl
@[simp] theorem tkind_28 : tkind prog 28 = some 4 := by kernel_rfl
@[simp] theorem tint_28 : tint prog 28 = none := by kernel_rfl
@[simp] theorem tbytes_28 : tbytes prog 28 = some 24 := by kernel_rfl
@[simp] theorem tplaces_28 : tplaces prog 28 = some [(0, 1), (1, 1), (2, 1)] := by kernel_rfl
@[simp] theorem tzero_28 : tzero prog 28 = some (Value.agg #[Value.int IntKind.i64 0, Value.int IntKind.i64 0, Value.int IntKind.i64 0]) := by kernel_rfl
@[simp] theorem tfield_28_0 : tfield prog 28 0 = some (0, 1, false) := by kernel_rfl
@[simp] theorem tfield_28_1 : tfield prog 28 1 = some (1, 1, false) := by kernel_rfl
@[simp] theorem tfield_28_2 : tfield prog 28 2 = some (2, 1, false) := by kernel_rfl
@[simp] theorem tsz_29 : tsz prog 29 = some 2 := by kernel_rfl
@[simp] theorem tagg_29 : tagg prog 29 = some true := by kernel_rfl
@[simp] theorem tcells_29 : tcells prog 29 = [3, 3] := by kernel_rfl
@[simp] theorem tslice_29 : tslice prog 29 = none := by kernel_rfl
@[simp] theorem tkind_29 : tkind prog 29 = some 4 := by kernel_rfl
@[simp] theorem tint_29 : tint prog 29 = none := by kernel_rfl
@[simp] theorem tbytes_29 : tbytes prog 29 = some 16 := by kernel_rfl
@[simp] theorem tplaces_29 : tplaces prog 29 = some [(0, 1), (1, 1)] := by kernel_rfl
@[simp] theorem tzero_29 : tzero prog 29 = some (Value.agg #[Value.int IntKind.i64 0, Value.int IntKind.i64 0]) := by kernel_rfl
@[simp] theorem tfield_29_0 : tfield prog 29 0 = some (0, 1, false) := by kernel_rfl
@[simp] theorem tfield_29_1 : tfield prog 29 1 = some (1, 1, false) := by kernel_rfl
@[simp] theorem tsz_30 : tsz prog 30 = some 2 := by kernel_rfl
@[simp] theorem tagg_30 : tagg prog 30 = some true := by kernel_rfl
@[simp] theorem tcells_30 : tcells prog 30 = [3, 3] := by kernel_rfl
@[simp] theorem tslice_30 : tslice prog 30 = none := by kernel_rfl
@[simp] theorem tkind_30 : tkind prog 30 = some 4 := by kernel_rfl
@[simp] theorem tint_30 : tint prog 30 = none := by kernel_rfl
@[simp] theorem tbytes_30 : tbytes prog 30 = some 16 := by kernel_rfl
@[simp] theorem tplaces_30 : tplaces prog 30 = some [(0, 1), (1, 1)] := by kernel_rfl
@[simp] theorem tzero_30 : tzero prog 30 = some (Value.agg #[Value.int IntKind.i64 0, Value.int IntKind.i64 0]) := by kernel_rfl
@[simp] theorem tfield_30_0 : tfield prog 30 0 = some (0, 1, false) := by kernel_rfl
@[simp] theorem tfield_30_1 : tfield prog 30 1 = some (1, 1, false) := by kernel_rfl
@[simp] theorem tsz_31 : tsz prog 31 = some 1 := by kernel_rfl
@[simp] theorem tagg_31 : tagg prog 31 = some false := by kernel_rfl
@[simp] theorem tcells_31 : tcells prog 31 = [31] := by kernel_rfl
@[simp] theorem tslice_31 : tslice prog 31 = none := by kernel_rfl
@[simp] theorem tkind_31 : tkind prog 31 = some 4 := by kernel_rfl
@[simp] theorem tint_31 : tint prog 31 = none := by kernel_rfl
@[simp] theorem tbytes_31 : tbytes prog 31 = some 0 := by kernel_rfl
@[simp] theorem tplaces_31 : tplaces prog 31 = none := by kernel_rfl
@[simp] theorem tzero_31 : tzero prog 31 = some (Value.tuple #[Value.agg #[Value.int IntKind.i64 0, Value.int IntKind.i64 0], Value.bool false]) := by kernel_rfl
@[simp] theorem tsz_32 : tsz prog 32 = some 1 := by kernel_rfl
@[simp] theorem tagg_32 : tagg prog 32 = some false := by kernel_rfl
@[simp] theorem tcells_32 : tcells prog 32 = [32] := by kernel_rfl
@[simp] theorem tslice_32 : tslice prog 32 = none := by kernel_rfl
@[simp] theorem tkind_32 : tkind prog 32 = some 4 := by kernel_rfl
@[simp] theorem tint_32 : tint prog 32 = none := by kernel_rfl
@[simp] theorem tbytes_32 : tbytes prog 32 = some 8 := by kernel_rfl
@[simp] theorem tplaces_32 : tplaces prog 32 = none := by kernel_rfl
@[simp] theorem tzero_32 : tzero prog 32 = some Value.nilFunc := by kernel_rfl
@[simp] theorem tsz_33 : tsz prog 33 = some 1 := by kernel_rfl
@[simp] theorem tagg_33 : tagg prog 33 = some false := by kernel_rfl
@[simp] theorem tcells_33 : tcells prog 33 = [33] := by kernel_rfl
@[simp] theorem tslice_33 : tslice prog 33 = none := by kernel_rfl
@[simp] theorem tkind_33 : tkind prog 33 = some 4 := by kernel_rfl
@[simp] theorem tint_33 : tint prog 33 = none := by kernel_rfl
@[simp] theorem tbytes_33 : tbytes prog 33 = some 8 := by kernel_rfl
@[simp] theorem tplaces_33 : tplaces prog 33 = none := by kernel_rfl
@[simp] theorem tzero_33 : tzero prog 33 = some Value.nilFunc := by kernel_rfl
@[simp] theorem tsz_34 : tsz prog 34 = some 1 := by kernel_rfl
@[simp] theorem tagg_34 : tagg prog 34 = some false := by kernel_rfl
@[simp] theorem tcells_34 : tcells prog 34 = [34] := by kernel_rfl
@[simp] theorem tslice_34 : tslice prog 34 = none := by kernel_rfl
@[simp] theorem tkind_34 : tkind prog 34 = some 4 := by kernel_rfl
@[simp] theorem tint_34 : tint prog 34 = none := by kernel_rfl
@[simp] theorem tbytes_34 : tbytes prog 34 = some 8 := by kernel_rfl
@[simp] theorem tplaces_34 : tplaces prog 34 = none := by kernel_rfl
@[simp] theorem tzero_34 : tzero prog 34 = some Value.nilFunc := by kernel_rfl
@[simp] theorem tsz_35 : tsz prog 35 = some 1 := by kernel_rfl
@[simp] theorem tagg_35 : tagg prog 35 = some false := by kernel_rfl
@[simp] theorem tcells_35 : tcells prog 35 = [35] := by kernel_rfl
@[simp] theorem tslice_35 : tslice prog 35 = none := by kernel_rfl
@[simp] theorem tkind_35 : tkind prog 35 = some 4 := by kernel_rfl
@[simp] theorem tint_35 : tint prog 35 = none := by kernel_rfl
@[simp] theorem tbytes_35 : tbytes prog 35 = some 8 := by kernel_rfl
@[simp] theorem tplaces_35 : tplaces prog 35 = none := by kernel_rfl
@[simp] theorem tzero_35 : tzero prog 35 = some Value.nilFunc := by kernel_rfl
@[simp] theorem tsz_36 : tsz prog 36 = some 1 := by kernel_rfl
@[simp] theorem tagg_36 : tagg prog 36 = some false := by kernel_rfl
@[simp] theorem tcells_36 : tcells prog 36 = [36] := by kernel_rfl
@[simp] theorem tslice_36 : tslice prog 36 = some 3 := by kernel_rfl
@[simp] theorem tkind_36 : tkind prog 36 = some 3 := by kernel_rfl
@[simp] theorem tint_36 : tint prog 36 = none := by kernel_rfl
@[simp] theorem tbytes_36 : tbytes prog 36 = some 24 := by kernel_rfl
@[simp] theorem tplaces_36 : tplaces prog 36 = none := by kernel_rfl
@[simp] theorem tzero_36 : tzero prog 36 = some (Value.slice none 0 0) := by kernel_rfl
@[simp] theorem tsz_37 : tsz prog 37 = some 1 := by kernel_rfl
@[simp] theorem tagg_37 : tagg prog 37 = some false := by kernel_rfl
@[simp] theorem tcells_37 : tcells prog 37 = [37] := by kernel_rfl
@[simp] theorem tslice_37 : tslice prog 37 = some 30 := by kernel_rfl
@[simp] theorem tkind_37 : tkind prog 37 = some 3 := by kernel_rfl
@[simp] theorem tint_37 : tint prog 37 = none := by kernel_rfl
@[simp] theorem tbytes_37 : tbytes prog 37 = some 24 := by kernel_rfl
@[simp] theorem tplaces_37 : tplaces prog 37 = none := by kernel_rfl
@[simp] theorem tzero_37 : tzero prog 37 = some (Value.slice none 0 0) := by kernel_rfl
@[simp] theorem tsz_38 : tsz prog 38 = some 1 := by kernel_rfl
@[simp] theorem tagg_38 : tagg prog 38 = some false := by kernel_rfl
@[simp] theorem tcells_38 : tcells prog 38 = [38] := by kernel_rfl
@[simp] theorem tslice_38 : tslice prog 38 = none := by kernel_rfl
@[simp] theorem tkind_38 : tkind prog 38 = some 4 := by kernel_rfl
@[simp] theorem tint_38 : tint prog 38 = none := by kernel_rfl
@[simp] theorem tbytes_38 : tbytes prog 38 = some 8 := by kernel_rfl
@[simp] theorem tplaces_38 : tplaces prog 38 = none := by kernel_rfl
@[simp] theorem tzero_38 : tzero prog 38 = some Value.nilFunc := by kernel_rfl
@[simp] theorem tsz_39 : tsz prog 39 = some 1 := by kernel_rfl
@[simp] theorem tagg_39 : tagg prog 39 = some false := by kernel_rfl
@[simp] theorem tcells_39 : tcells prog 39 = [39] := by kernel_rfl
@[simp] theorem tslice_39 : tslice prog 39 = none := by kernel_rfl
@[simp] theorem tkind_39 : tkind prog 39 = some 4 := by kernel_rfl
@[simp] theorem tint_39 : tint prog 39 = none := by kernel_rfl
@[simp] theorem tbytes_39 : tbytes prog 39 = some 8 := by kernel_rfl
@[simp] theorem tplaces_39 : tplaces prog 39 = none := by kernel_rfl
@[simp] theorem tzero_39 : tzero prog 39 = some Value.nilFunc := by kernel_rfl
@[simp] theorem tsz_40 : tsz prog 40 = some 1 := by kernel_rfl
@[simp] theorem tagg_40 : tagg prog 40 = some false := by kernel_rfl
@[simp] theorem tcells_40 : tcells prog 40 = [40] := by kernel_rfl
@[simp] theorem tslice_40 : tslice prog 40 = none := by kernel_rfl
@[simp] theorem tkind_40 : tkind prog 40 = some 4 := by kernel_rfl
@[simp] theorem tint_40 : tint prog 40 = none := by kernel_rfl
@[simp] theorem tbytes_40 : tbytes prog 40 = some 8 := by kernel_rfl
@[simp] theorem tplaces_40 : tplaces prog 40 = none := by kernel_rfl
@[simp] theorem tzero_40 : tzero prog 40 = some Value.nilFunc := by kernel_rfl
@[simp] theorem tsz_41 : tsz prog 41 = some 1 := by kernel_rfl
@[simp] theorem tagg_41 : tagg prog 41 = some false := by kernel_rfl
@[simp] theorem tcells_41 : tcells prog 41 = [41] := by kernel_rfl
@[simp] theorem tslice_41 : tslice prog 41 = none := by kernel_rfl
@[simp] theorem tkind_41 : tkind prog 41 = some 4 := by kernel_rfl
@[simp] theorem tint_41 : tint prog 41 = none := by kernel_rfl
@[simp] theorem tbytes_41 : tbytes prog 41 = some 8 := by kernel_rfl
@[simp] theorem tplaces_41 : tplaces prog 41 = none := by kernel_rfl
@[simp] theorem tzero_41 : tzero prog 41 = some Value.nilFunc := by kernel_rfl
@[simp] theorem tsz_42 : tsz prog 42 = some 1 := by kernel_rfl
@[simp] theorem tagg_42 : tagg prog 42 = some false := by kernel_rfl
@[simp] theorem tcells_42 : tcells prog 42 = [42] := by kernel_rfl
@[simp] theorem tslice_42 : tslice prog 42 = none := by kernel_rfl
@[simp] theorem tkind_42 : tkind prog 42 = some 4 := by kernel_rfl
@[simp] theorem tint_42 : tint prog 42 = none := by kernel_rfl
@[simp] theorem tbytes_42 : tbytes prog 42 = some 8 := by kernel_rfl
@[simp] theorem tplaces_42 : tplaces prog 42 = none := by kernel_rfl
@[simp] theorem tzero_42 : tzero prog 42 = some Value.nilFunc := by kernel_rfl
@[simp] theorem tsz_43 : tsz prog 43 = some 1 := by kernel_rfl
@[simp] theorem tagg_43 : tagg prog 43 = some false := by kernel_rfl
@[simp] theorem tcells_43 : tcells prog 43 = [43] := by kernel_rfl
@[simp] theorem tslice_43 : tslice prog 43 = none := by kernel_rfl
@[simp] theorem tkind_43 : tkind prog 43 = some 4 := by kernel_rfl
@[simp] theorem tint_43 : tint prog 43 = none := by kernel_rfl
@[simp] theorem tbytes_43 : tbytes prog 43 = some 8 := by kernel_rfl
@[simp] theorem tplaces_43 : tplaces prog 43 = none := by kernel_rfl
@[simp] theorem tzero_43 : tzero prog 43 = some Value.nilFunc := by kernel_rfl
@[simp] theorem tsz_44 : tsz prog 44 = some 2 := by kernel_rfl
@[simp] theorem tagg_44 : tagg prog 44 = some true := by kernel_rfl
@[simp] theorem tcells_44 : tcells prog 44 = [3, 26] := by kernel_rfl
@[simp] theorem tslice_44 : tslice prog 44 = none := by kernel_rfl
@[simp] theorem tkind_44 : tkind prog 44 = some 4 := by kernel_rfl
@[simp] theorem tint_44 : tint prog 44 = none := by kernel_rfl
@[simp] theorem tbytes_44 : tbytes prog 44 = some 32 := by kernel_rfl
@[simp] theorem tplaces_44 : tplaces prog 44 = some [(0, 1), (1, 1)] := by kernel_rfl
@[simp] theorem tzero_44 : tzero prog 44 = some (Value.agg #[Value.int IntKind.i64 0, Value.slice none 0 0]) := by kernel_rfl
@[simp] theorem tfield_44_0 : tfield prog 44 0 = some (0, 1, false) := by kernel_rfl
@[simp] theorem tfield_44_1 : tfield prog 44 1 = some (1, 1, false) := by kernel_rfl
@[simp] theorem tsz_45 : tsz prog 45 = some 2 := by kernel_rfl
@[simp] theorem tagg_45 : tagg prog 45 = some true := by kernel_rfl
@[simp] theorem tcells_45 : tcells prog 45 = [3, 26] := by kernel_rfl
@[simp] theorem tslice_45 : tslice prog 45 = none := by kernel_rfl
@[simp] theorem tkind_45 : tkind prog 45 = some 4 := by kernel_rfl
@[simp] theorem tint_45 : tint prog 45 = none := by kernel_rfl
@[simp] theorem tbytes_45 : tbytes prog 45 = some 32 := by kernel_rfl
@[simp] theorem tplaces_45 : tplaces prog 45 = some [(0, 1), (1, 1)] := by kernel_rfl
@[simp] theorem tzero_45 : tzero prog 45 = some (Value.agg #[Value.int IntKind.i64 0, Value.slice none 0 0]) := by kernel_rfl
@[simp] theorem tfield_45_0 : tfield prog 45 0 = some (0, 1, false) := by kernel_rfl
@[simp] theorem tfield_45_1 : tfield prog 45 1 = some (1, 1, false) := by kernel_rfl
@[simp] theorem tsz_46 : tsz prog 46 = some 1 := by kernel_rfl
@[simp] theorem tagg_46 : tagg prog 46 = some false := by kernel_rfl
@[simp] theorem tcells_46 : tcells prog 46 = [46] := by kernel_rfl
@[simp] theorem tslice_46 : tslice prog 46 = none := by kernel_rfl
@[simp] theorem tkind_46 : tkind prog 46 = some 4 := by kernel_rfl
@[simp] theorem tint_46 : tint prog 46 = none := by kernel_rfl
@[simp] theorem tbytes_46 : tbytes prog 46 = some 8 := by kernel_rfl
@[simp] theorem tplaces_46 : tplaces prog 46 = none := by kernel_rfl
@[simp] theorem tzero_46 : tzero prog 46 = some Value.nilFunc := by kernel_rfl
@[simp] theorem tsz_47 : tsz prog 47 = some 1 := by kernel_rfl
@[simp] theorem tagg_47 : tagg prog 47 = some false := by kernel_rfl
@[simp] theorem tcells_47 : tcells prog 47 = [47] := by kernel_rfl
@[simp] theorem tslice_47 : tslice prog 47 = none := by kernel_rfl
@[simp] theorem tkind_47 : tkind prog 47 = some 4 := by kernel_rfl
@[simp] theorem tint_47 : tint prog 47 = none := by kernel_rfl
@[simp] theorem tbytes_47 : tbytes prog 47 = some 8 := by kernel_rfl
@[simp] theorem tplaces_47 : tplaces prog 47 = none := by kernel_rfl
@[simp] theorem tzero_47 : tzero prog 47 = some Value.nilFunc := by kernel_rfl
@[simp] theorem tsz_48 : tsz prog 48 = some 1 := by kernel_rfl
@[simp] theorem tagg_48 : tagg prog 48 = some false := by kernel_rfl
@[simp] theorem tcells_48 : tcells prog 48 = [48] := by kernel_rfl
@[simp] theorem tslice_48 : tslice prog 48 = none := by kernel_rfl
@[simp] theorem tkind_48 : tkind prog 48 = some 4 := by kernel_rfl
@[simp] theorem tint_48 : tint prog 48 = none := by kernel_rfl
@[simp] theorem tbytes_48 : tbytes prog 48 = some 8 := by kernel_rfl
@[simp] theorem tplaces_48 : tplaces prog 48 = none := by kernel_rfl
@[simp] theorem tzero_48 : tzero prog 48 = some Value.nilFunc := by kernel_rfl
@[simp] theorem tsz_49 : tsz prog 49 = some 1 := by kernel_rfl
@[simp] theorem tagg_49 : tagg prog 49 = some false := by kernel_rfl
@[simp] theorem tcells_49 : tcells prog 49 = [49] := by kernel_rfl
@[simp] theorem tslice_49 : tslice prog 49 = none := by kernel_rfl
@[simp] theorem tkind_49 : tkind prog 49 = some 2 := by kernel_rfl
@[simp] theorem tint_49 : tint prog 49 = some IntKind.u64 := by kernel_rfl
@[simp] theorem tbytes_49 : tbytes prog 49 = some 8 := by kernel_rfl
@[simp] theorem tplaces_49 : tplaces prog 49 = none := by kernel_rfl
@[simp] theorem tzero_49 : tzero prog 49 = some (Value.int IntKind.u64 0) := by kernel_rfl
@[simp] theorem tsz_50 : tsz prog 50 = some 1 := by kernel_rfl
@[simp] theorem tagg_50 : tagg prog 50 = some false := by kernel_rfl
@[simp] theorem tcells_50 : tcells prog 50 = [50] := by kernel_rfl
@[simp] theorem tslice_50 : tslice prog 50 = none := by kernel_rfl
@[simp] theorem tkind_50 : tkind prog 50 = some 4 := by kernel_rfl
@[simp] theorem tint_50 : tint prog 50 = none := by kernel_rfl
@[simp] theorem tbytes_50 : tbytes prog 50 = some 0 := by kernel_rfl
@[simp] theorem tplaces_50 : tplaces prog 50 = none := by kernel_rfl
@[simp] theorem tzero_50 : tzero prog 50 = some (Value.tuple #[Value.int IntKind.u64 0, Value.int IntKind.u64 0]) := by kernel_rfl
@[simp] theorem tsz_51 : tsz prog 51 = some 1 := by kernel_rfl
@[simp] theorem tagg_51 : tagg prog 51 = some false := by kernel_rfl
@[simp] theorem tcells_51 : tcells prog 51 = [51] := by kernel_rfl
@[simp] theorem tslice_51 : tslice prog 51 = none := by kernel_rfl
@[simp] theorem tkind_51 : tkind prog 51 = some 4 := by kernel_rfl
@[simp] theorem tint_51 : tint prog 51 = none := by kernel_rfl
@[simp] theorem tbytes_51 : tbytes prog 51 = some 8 := by kernel_rfl
@[simp] theorem tplaces_51 : tplaces prog 51 = none := by kernel_rfl
@[simp] theorem tzero_51 : tzero prog 51 = some Value.nilFunc := by kernel_rfl
@[simp] theorem tsz_52 : tsz prog 52 = some 1 := by kernel_rfl
@[simp] theorem tagg_52 : tagg prog 52 = some false := by kernel_rfl
@[simp] theorem tcells_52 : tcells prog 52 = [52] := by kernel_rfl
@[simp] theorem tslice_52 : tslice prog 52 = none := by kernel_rfl
@[simp] theorem tkind_52 : tkind prog 52 = some 2 := by kernel_rfl
@[simp] theorem tint_52 : tint prog 52 = some IntKind.u32 := by kernel_rfl
@[simp] theorem tbytes_52 : tbytes prog 52 = some 4 := by kernel_rfl
@[simp] theorem tplaces_52 : tplaces prog 52 = none := by kernel_rfl
@[simp] theorem tzero_52 : tzero prog 52 = some (Value.int IntKind.u32 0) := by kernel_rfl
@[simp] theorem tsz_53 : tsz prog 53 = some 1 := by kernel_rfl
@[simp] theorem tagg_53 : tagg prog 53 = some false := by kernel_rfl
@[simp] theorem tcells_53 : tcells prog 53 = [53] := by kernel_rfl
@[simp] theorem tslice_53 : tslice prog 53 = none := by kernel_rfl
@[simp] theorem tkind_53 : tkind prog 53 = some 4 := by kernel_rfl
@[simp] theorem tint_53 : tint prog 53 = none := by kernel_rfl
@[simp] theorem tbytes_53 : tbytes prog 53 = some 0 := by kernel_rfl
@[simp] theorem tplaces_53 : tplaces prog 53 = none := by kernel_rfl
@[simp] theorem tzero_53 : tzero prog 53 = some (Value.tuple #[Value.int IntKind.u32 0, Value.int IntKind.u32 0]) := by kernel_rfl
@[simp] theorem tsz_54 : tsz prog 54 = some 1 := by kernel_rfl
@[simp] theorem tagg_54 : tagg prog 54 = some false := by kernel_rfl
@[simp] theorem tcells_54 : tcells prog 54 = [54] := by kernel_rfl
@[simp] theorem tslice_54 : tslice prog 54 = none := by kernel_rfl
@[simp] theorem tkind_54 : tkind prog 54 = some 4 := by kernel_rfl
@[simp] theorem tint_54 : tint prog 54 = none := by kernel_rfl
@[simp] theorem tbytes_54 : tbytes prog 54 = some 8 := by kernel_rfl
@[simp] theorem tplaces_54 : tplaces prog 54 = none := by kernel_rfl
@[simp] theorem tzero_54 : tzero prog 54 = some Value.nilFunc := by kernel_rfl
@[simp] theorem tsz_55 : tsz prog 55 = some 1 := by kernel_rfl
@[simp] theorem tagg_55 : tagg prog 55 = some false := by kernel_rfl
@[simp] theorem tcells_55 : tcells prog 55 = [55] := by kernel_rfl
@[simp] theorem tslice_55 : tslice prog 55 = none := by kernel_rfl
@[simp] theorem tkind_55 : tkind prog 55 = some 2 := by kernel_rfl
@[simp] theorem tint_55 : tint prog 55 = some IntKind.u64 := by kernel_rfl
@[simp] theorem tbytes_55 : tbytes prog 55 = some 8 := by kernel_rfl
@[simp] theorem tplaces_55 : tplaces prog 55 = none := by kernel_rfl
@[simp] theorem tzero_55 : tzero prog 55 = some (Value.int IntKind.u64 0) := by kernel_rfl
@[simp] theorem tsz_56 : tsz prog 56 = some 1 := by kernel_rfl
@[simp] theorem tagg_56 : tagg prog 56 = some false := by kernel_rfl
@[simp] theorem tcells_56 : tcells prog 56 = [56] := by kernel_rfl
@[simp] theorem tslice_56 : tslice prog 56 = none := by kernel_rfl
@[simp] theorem tkind_56 : tkind prog 56 = some 4 := by kernel_rfl
@[simp] theorem tint_56 : tint prog 56 = none := by kernel_rfl
@[simp] theorem tbytes_56 : tbytes prog 56 = some 0 := by kernel_rfl
@[simp] theorem tplaces_56 : tplaces prog 56 = none := by kernel_rfl
@[simp] theorem tzero_56 : tzero prog 56 = some (Value.tuple #[Value.int IntKind.u64 0, Value.int IntKind.u64 0]) := by kernel_rfl
@[simp] theorem tsz_57 : tsz prog 57 = some 1 := by kernel_rfl
@[simp] theorem tagg_57 : tagg prog 57 = some false := by kernel_rfl
@[simp] theorem tcells_57 : tcells prog 57 = [57] := by kernel_rfl
@[simp] theorem tslice_57 : tslice prog 57 = none := by kernel_rfl
@[simp] theorem tkind_57 : tkind prog 57 = some 4 := by kernel_rfl
@[simp] theorem tint_57 : tint prog 57 = none := by kernel_rfl
@[simp] theorem tbytes_57 : tbytes prog 57 = some 8 := by kernel_rfl
@[simp] theorem tplaces_57 : tplaces prog 57 = none := by kernel_rfl
@[simp] theorem tzero_57 : tzero prog 57 = some Value.nilFunc := by kernel_rfl
@[simp] theorem tsz_58 : tsz prog 58 = some 1 := by kernel_rfl
@[simp] theorem tagg_58 : tagg prog 58 = some false := by kernel_rfl
@[simp] theorem tcells_58 : tcells prog 58 = [58] := by kernel_rfl
@[simp] theorem tslice_58 : tslice prog 58 = none := by kernel_rfl
@[simp] theorem tkind_58 : tkind prog 58 = some 4 := by kernel_rfl
@[simp] theorem tint_58 : tint prog 58 = none := by kernel_rfl
@[simp] theorem tbytes_58 : tbytes prog 58 = some 8 := by kernel_rfl
@[simp] theorem tplaces_58 : tplaces prog 58 = none := by kernel_rfl
@[simp] theorem tzero_58 : tzero prog 58 = some Value.nilFunc := by kernel_rfl
@[simp] theorem tsz_59 : tsz prog 59 = some 1 := by kernel_rfl
@[simp] theorem tagg_59 : tagg prog 59 = some false := by kernel_rfl
@[simp] theorem tcells_59 : tcells prog 59 = [59] := by kernel_rfl
@[simp] theorem tslice_59 : tslice prog 59 = none := by kernel_rfl
@[simp] theorem tkind_59 : tkind prog 59 = some 4 := by kernel_rfl
@[simp] theorem tint_59 : tint prog 59 = none := by kernel_rfl
@[simp] theorem tbytes_59 : tbytes prog 59 = some 8 := by kernel_rfl
@[simp] theorem tplaces_59 : tplaces prog 59 = none := by kernel_rfl
@[simp] theorem tzero_59 : tzero prog 59 = some Value.nilFunc := by kernel_rfl
@[simp] theorem tsz_60 : tsz prog 60 = some 1 := by kernel_rfl
@[simp] theorem tagg_60 : tagg prog 60 = some false := by kernel_rfl
@[simp] theorem tcells_60 : tcells prog 60 = [60] := by kernel_rfl
@[simp] theorem tslice_60 : tslice prog 60 = none := by kernel_rfl
@[simp] theorem tkind_60 : tkind prog 60 = some 4 := by kernel_rfl
@[simp] theorem tint_60 : tint prog 60 = none := by kernel_rfl
@[simp] theorem tbytes_60 : tbytes prog 60 = some 8 := by kernel_rfl
@[simp] theorem tplaces_60 : tplaces prog 60 = none := by kernel_rfl
@[simp] theorem tzero_60 : tzero prog 60 = some Value.nilFunc := by kernel_rfl
@[simp] theorem tsz_61 : tsz prog 61 = some 4 := by kernel_rfl
@[simp] theorem tagg_61 : tagg prog 61 = some true := by kernel_rfl
@[simp] theorem tcells_61 : tcells prog 61 = [17, 17, 17, 9] := by kernel_rfl
@[simp] theorem tslice_61 : tslice prog 61 = none := by kernel_rfl
@[simp] theorem tkind_61 : tkind prog 61 = some 4 := by kernel_rfl
@[simp] theorem tint_61 : tint prog 61 = none := by kernel_rfl
@[simp] theorem tbytes_61 : tbytes prog 61 = some 40 := by kernel_rfl
@[simp] theorem tplaces_61 : tplaces prog 61 = some [(0, 1), (1, 1), (2, 1), (3, 1)] := by kernel_rfl
@[simp] theorem tzero_61 : tzero prog 61 = some (Value.agg #[Value.pointer none, Value.pointer none, Value.pointer none, Value.string ⟨#[]⟩]) := by kernel_rfl
@[simp] theorem tfield_61_0 : tfield prog 61 0 = some (0, 1, false) := by kernel_rfl
@[simp] theorem tfield_61_1 : tfield prog 61 1 = some (1, 1, false) := by kernel_rfl
@[simp] theorem tfield_61_2 : tfield prog 61 2 = some (2, 1, false) := by kernel_rfl
@[simp] theorem tfield_61_3 : tfield prog 61 3 = some (3, 1, false) := by kernel_rfl
@[simp] theorem tsz_62 : tsz prog 62 = some 4 := by kernel_rfl
@[simp] theorem tagg_62 : tagg prog 62 = some true := by kernel_rfl
@[simp] theorem tcells_62 : tcells prog 62 = [17, 17, 17, 9] := by kernel_rfl
@[simp] theorem tslice_62 : tslice prog 62 = none := by kernel_rfl
@[simp] theorem tkind_62 : tkind prog 62 = some 4 := by kernel_rfl
@[simp] theorem tint_62 : tint prog 62 = none := by kernel_rfl
@[simp] theorem tbytes_62 : tbytes prog 62 = some 40 := by kernel_rfl
@[simp] theorem tplaces_62 : tplaces prog 62 = some [(0, 1), (1, 1), (2, 1), (3, 1)] := by kernel_rfl
@[simp] theorem tzero_62 : tzero prog 62 = some (Value.agg #[Value.pointer none, Value.pointer none, Value.pointer none, Value.string ⟨#[]⟩]) := by kernel_rfl
@[simp] theorem tfield_62_0 : tfield prog 62 0 = some (0, 1, false) := by kernel_rfl
@[simp] theorem tfield_62_1 : tfield prog 62 1 = some (1, 1, false) := by kernel_rfl
@[simp] theorem tfield_62_2 : tfield prog 62 2 = some (2, 1, false) := by kernel_rfl
@[simp] theorem tfield_62_3 : tfield prog 62 3 = some (3, 1, false) := by kernel_rfl
@[simp] theorem tsz_63 : tsz prog 63 = some 0 := by kernel_rfl
@[simp] theorem tagg_63 : tagg prog 63 = some true := by kernel_rfl
@[simp] theorem tcells_63 : tcells prog 63 = [63] := by kernel_rfl
@[simp] theorem tslice_63 : tslice prog 63 = none := by kernel_rfl
@[simp] theorem tkind_63 : tkind prog 63 = some 4 := by kernel_rfl
@[simp] theorem tint_63 : tint prog 63 = none := by kernel_rfl
@[simp] theorem tbytes_63 : tbytes prog 63 = some 0 := by kernel_rfl
@[simp] theorem tplaces_63 : tplaces prog 63 = none := by kernel_rfl
@[simp] theorem tzero_63 : tzero prog 63 = some (Value.agg #[]) := by kernel_rfl
@[simp] theorem tsz_64 : tsz prog 64 = some 0 := by kernel_rfl
@[simp] theorem tagg_64 : tagg prog 64 = some true := by kernel_rfl
@[simp] theorem tcells_64 : tcells prog 64 = [63] := by kernel_rfl
@[simp] theorem tslice_64 : tslice prog 64 = none := by kernel_rfl
@[simp] theorem tkind_64 : tkind prog 64 = some 4 := by kernel_rfl
@[simp] theorem tint_64 : tint prog 64 = none := by kernel_rfl
@[simp] theorem tbytes_64 : tbytes prog 64 = some 0 := by kernel_rfl
@[simp] theorem tplaces_64 : tplaces prog 64 = some [(0, 0)] := by kernel_rfl
@[simp] theorem tzero_64 : tzero prog 64 = some (Value.agg #[]) := by kernel_rfl
@[simp] theorem tfield_64_0 : tfield prog 64 0 = some (0, 0, true) := by kernel_rfl
@[simp] theorem tsz_65 : tsz prog 65 = some 0 := by kernel_rfl
@[simp] theorem tagg_65 : tagg prog 65 = some true := by kernel_rfl
@[simp] theorem tcells_65 : tcells prog 65 = [63] := by kernel_rfl
@[simp] theorem tslice_65 : tslice prog 65 = none := by kernel_rfl
@[simp] theorem tkind_65 : tkind prog 65 = some 4 := by kernel_rfl
@[simp] theorem tint_65 : tint prog 65 = none := by kernel_rfl
@[simp] theorem tbytes_65 : tbytes prog 65 = some 0 := by kernel_rfl
@[simp] theorem tplaces_65 : tplaces prog 65 = some [(0, 0)] := by kernel_rfl
@[simp] theorem tzero_65 : tzero prog 65 = some (Value.agg #[]) := by kernel_rfl
@[simp] theorem tfield_65_0 : tfield prog 65 0 = some (0, 0, true) := by kernel_rfl
@[simp] theorem tsz_66 : tsz prog 66 = some 1 := by kernel_rfl
@[simp] theorem tagg_66 : tagg prog 66 = some false := by kernel_rfl
@[simp] theorem tcells_66 : tcells prog 66 = [66] := by kernel_rfl
@[simp] theorem tslice_66 : tslice prog 66 = none := by kernel_rfl
@[simp] theorem tkind_66 : tkind prog 66 = some 2 := by kernel_rfl
@[simp] theorem tint_66 : tint prog 66 = some IntKind.u8 := by kernel_rfl
@[simp] theorem tbytes_66 : tbytes prog 66 = some 1 := by kernel_rfl
@[simp] theorem tplaces_66 : tplaces prog 66 = none := by kernel_rfl
@[simp] theorem tzero_66 : tzero prog 66 = some (Value.int IntKind.u8 0) := by kernel_rfl
@[simp] theorem tsz_67 : tsz prog 67 = some 1 := by kernel_rfl
@[simp] theorem tagg_67 : tagg prog 67 = some false := by kernel_rfl
@[simp] theorem tcells_67 : tcells prog 67 = [67] := by kernel_rfl
@[simp] theorem tslice_67 : tslice prog 67 = none := by kernel_rfl
@[simp] theorem tkind_67 : tkind prog 67 = some 2 := by kernel_rfl
@[simp] theorem tint_67 : tint prog 67 = some IntKind.u8 := by kernel_rfl
@[simp] theorem tbytes_67 : tbytes prog 67 = some 1 := by kernel_rfl
@[simp] theorem tplaces_67 : tplaces prog 67 = none := by kernel_rfl
@[simp] theorem tzero_67 : tzero prog 67 = some (Value.int IntKind.u8 0) := by kernel_rfl
@[simp] theorem tsz_68 : tsz prog 68 = some 1 := by kernel_rfl
@[simp] theorem tagg_68 : tagg prog 68 = some false := by kernel_rfl
@[simp] theorem tcells_68 : tcells prog 68 = [68] := by kernel_rfl
@[simp] theorem tslice_68 : tslice prog 68 = none := by kernel_rfl
@[simp] theorem tkind_68 : tkind prog 68 = some 4 := by kernel_rfl
@[simp] theorem tint_68 : tint prog 68 = none := by kernel_rfl
@[simp] theorem tbytes_68 : tbytes prog 68 = some 8 := by kernel_rfl
@[simp] theorem tplaces_68 : tplaces prog 68 = none := by kernel_rfl
@[simp] theorem tzero_68 : tzero prog 68 = some Value.nilFunc := by kernel_rfl
@[simp] theorem tsz_69 : tsz prog 69 = some 1 := by kernel_rfl
@[simp] theorem tagg_69 : tagg prog 69 = some false := by kernel_rfl
@[simp] theorem tcells_69 : tcells prog 69 = [69] := by kernel_rfl
@[simp] theorem tslice_69 : tslice prog 69 = none := by kernel_rfl
@[simp] theorem tkind_69 : tkind prog 69 = some 5 := by kernel_rfl
@[simp] theorem tint_69 : tint prog 69 = none := by kernel_rfl
@[simp] theorem tbytes_69 : tbytes prog 69 = some 8 := by kernel_rfl
@[simp] theorem tplaces_69 : tplaces prog 69 = none := by kernel_rfl
@[simp] theorem tzero_69 : tzero prog 69 = some (Value.pointer none) := by kernel_rfl
@[simp] theorem tsz_70 : tsz prog 70 = some 1 := by kernel_rfl
@[simp] theorem tagg_70 : tagg prog 70 = some false := by kernel_rfl
@[simp] theorem tcells_70 : tcells prog 70 = [70] := by kernel_rfl
@[simp] theorem tslice_70 : tslice prog 70 = none := by kernel_rfl
@[simp] theorem tkind_70 : tkind prog 70 = some 2 := by kernel_rfl
@[simp] theorem tint_70 : tint prog 70 = some IntKind.i32 := by kernel_rfl
@[simp] theorem tbytes_70 : tbytes prog 70 = some 4 := by kernel_rfl
@[simp] theorem tplaces_70 : tplaces prog 70 = none := by kernel_rfl
@[simp] theorem tzero_70 : tzero prog 70 = some (Value.int IntKind.i32 0) := by kernel_rfl
@[simp] theorem tsz_71 : tsz prog 71 = some 1 := by kernel_rfl
@[simp] theorem tagg_71 : tagg prog 71 = some false := by kernel_rfl
@[simp] theorem tcells_71 : tcells prog 71 = [71] := by kernel_rfl
@[simp] theorem tslice_71 : tslice prog 71 = none := by kernel_rfl
@[simp] theorem tkind_71 : tkind prog 71 = some 2 := by kernel_rfl
@[simp] theorem tint_71 : tint prog 71 = some IntKind.i32 := by kernel_rfl
@[simp] theorem tbytes_71 : tbytes prog 71 = some 4 := by kernel_rfl
@[simp] theorem tplaces_71 : tplaces prog 71 = none := by kernel_rfl
@[simp] theorem tzero_71 : tzero prog 71 = some (Value.int IntKind.i32 0) := by kernel_rfl
@[simp] theorem tsz_72 : tsz prog 72 = some 11 := by kernel_rfl
@[simp] theorem tagg_72 : tagg prog 72 = some true := by kernel_rfl
@[simp] theorem tcells_72 : tcells prog 72 = [12, 12, 52, 66, 5, 5, 67, 68, 69, 70, 71] := by kernel_rfl
@[simp] theorem tslice_72 : tslice prog 72 = none := by kernel_rfl
@[simp] theorem tkind_72 : tkind prog 72 = some 4 := by kernel_rfl
@[simp] theorem tint_72 : tint prog 72 = none := by kernel_rfl
@[simp] theorem tbytes_72 : tbytes prog 72 = some 48 := by kernel_rfl
@[simp] theorem tplaces_72 : tplaces prog 72 = some [(0, 1), (1, 1), (2, 1), (3, 1), (4, 1), (5, 1), (6, 1), (7, 1), (8, 1), (9, 1), (10, 1)] := by kernel_rfl
@[simp] theorem tzero_72 : tzero prog 72 = some (Value.agg #[Value.int IntKind.u64 0, Value.int IntKind.u64 0, Value.int IntKind.u32 0, Value.int IntKind.u8 0, Value.int IntKind.u8 0, Value.int IntKind.u8 0, Value.int IntKind.u8 0, Value.nilFunc, Value.pointer none, Value.int IntKind.i32 0, Value.int IntKind.i32 0]) := by kernel_rfl
@[simp] theorem tfield_72_0 : tfield prog 72 0 = some (0, 1, false) := by kernel_rfl
@[simp] theorem tfield_72_1 : tfield prog 72 1 = some (1, 1, false) := by kernel_rfl
@[simp] theorem tfield_72_2 : tfield prog 72 2 = some (2, 1, false) := by kernel_rfl
@[simp] theorem tfield_72_3 : tfield prog 72 3 = some (3, 1, false) := by kernel_rfl
@[simp] theorem tfield_72_4 : tfield prog 72 4 = some (4, 1, false) := by kernel_rfl
@[simp] theorem tfield_72_5 : tfield prog 72 5 = some (5, 1, false) := by kernel_rfl
@[simp] theorem tfield_72_6 : tfield prog 72 6 = some (6, 1, false) := by kernel_rfl
@[simp] theorem tfield_72_7 : tfield prog 72 7 = some (7, 1, false) := by kernel_rfl
@[simp] theorem tfield_72_8 : tfield prog 72 8 = some (8, 1, false) := by kernel_rfl
@[simp] theorem tfield_72_9 : tfield prog 72 9 = some (9, 1, false) := by kernel_rfl
@[simp] theorem tfield_72_10 : tfield prog 72 10 = some (10, 1, false) := by kernel_rfl
@[simp] theorem tsz_73 : tsz prog 73 = some 11 := by kernel_rfl
@[simp] theorem tagg_73 : tagg prog 73 = some true := by kernel_rfl
@[simp] theorem tcells_73 : tcells prog 73 = [12, 12, 52, 66, 5, 5, 67, 68, 69, 70, 71] := by kernel_rfl
@[simp] theorem tslice_73 : tslice prog 73 = none := by kernel_rfl
@[simp] theorem tkind_73 : tkind prog 73 = some 4 := by kernel_rfl
@[simp] theorem tint_73 : tint prog 73 = none := by kernel_rfl
@[simp] theorem tbytes_73 : tbytes prog 73 = some 48 := by kernel_rfl
@[simp] theorem tplaces_73 : tplaces prog 73 = some [(0, 1), (1, 1), (2, 1), (3, 1), (4, 1), (5, 1), (6, 1), (7, 1), (8, 1), (9, 1), (10, 1)] := by kernel_rfl
@[simp] theorem tzero_73 : tzero prog 73 = some (Value.agg #[Value.int IntKind.u64 0, Value.int IntKind.u64 0, Value.int IntKind.u32 0, Value.int IntKind.u8 0, Value.int IntKind.u8 0, Value.int IntKind.u8 0, Value.int IntKind.u8 0, Value.nilFunc, Value.pointer none, Value.int IntKind.i32 0, Value.int IntKind.i32 0]) := by kernel_rfl
@[simp] theorem tfield_73_0 : tfield prog 73 0 = some (0, 1, false) := by kernel_rfl
@[simp] theorem tfield_73_1 : tfield prog 73 1 = some (1, 1, false) := by kernel_rfl
@[simp] theorem tfield_73_2 : tfield prog 73 2 = some (2, 1, false) := by kernel_rfl
@[simp] theorem tfield_73_3 : tfield prog 73 3 = some (3, 1, false) := by kernel_rfl
@[simp] theorem tfield_73_4 : tfield prog 73 4 = some (4, 1, false) := by kernel_rfl
@[simp] theorem tfield_73_5 : tfield prog 73 5 = some (5, 1, false) := by kernel_rfl
@[simp] theorem tfield_73_6 : tfield prog 73 6 = some (6, 1, false) := by kernel_rfl
@[simp] theorem tfield_73_7 : tfield prog 73 7 = some (7, 1, false) := by kernel_rfl
@[simp] theorem tfield_73_8 : tfield prog 73 8 = some (8, 1, false) := by kernel_rfl
@[simp] theorem tfield_73_9 : tfield prog 73 9 = some (9, 1, false) := by kernel_rfl
@[simp] theorem tfield_73_10 : tfield prog 73 10 = some (10, 1, false) := by kernel_rfl
@[simp] theorem tsz_74 : tsz prog 74 = some 1 := by kernel_rfl
@[simp] theorem tagg_74 : tagg prog 74 = some false := by kernel_rfl
@[simp] theorem tcells_74 : tcells prog 74 = [74] := by kernel_rfl
@[simp] theorem tslice_74 : tslice prog 74 = none := by kernel_rfl
@[simp] theorem tkind_74 : tkind prog 74 = some 4 := by kernel_rfl
@[simp] theorem tint_74 : tint prog 74 = none := by kernel_rfl
@[simp] theorem tbytes_74 : tbytes prog 74 = some 8 := by kernel_rfl
@[simp] theorem tplaces_74 : tplaces prog 74 = none := by kernel_rfl
@[simp] theorem tzero_74 : tzero prog 74 = some (Value.pointer none) := by kernel_rfl
@[simp] theorem zc_0 : ((Value.tuple #[]) : Value).cells.size = 1 := by kernel_rfl
@[simp] theorem zc_1 : (Value.nilFunc : Value).cells.size = 1 := by kernel_rfl
@[simp] theorem zc_2 : ((Value.int IntKind.i64 0) : Value).cells.size = 1 := by kernel_rfl
@[simp] theorem zc_3 : ((Value.int IntKind.i64 0) : Value).cells.size = 1 := by kernel_rfl
@[simp] theorem zc_4 : ((Value.bool false) : Value).cells.size = 1 := by kernel_rfl
@[simp] theorem zc_5 : ((Value.int IntKind.u8 0) : Value).cells.size = 1 := by kernel_rfl
@[simp] theorem zc_6 : ((Value.int IntKind.u8 0) : Value).cells.size = 1 := by kernel_rfl
@[simp] theorem zc_7 : ((Value.agg #[Value.int IntKind.i64 0, Value.int IntKind.i64 0, Value.bool false, Value.int IntKind.u8 0]) : Value).cells.size = 4 := by kernel_rfl
@[simp] theorem zc_8 : ((Value.agg #[Value.int IntKind.i64 0, Value.int IntKind.i64 0, Value.bool false, Value.int IntKind.u8 0]) : Value).cells.size = 4 := by kernel_rfl
@[simp] theorem zc_9 : ((Value.string ⟨#[]⟩) : Value).cells.size = 1 := by kernel_rfl
@[simp] theorem zc_10 : ((Value.string ⟨#[]⟩) : Value).cells.size = 1 := by kernel_rfl
@[simp] theorem zc_11 : ((Value.string ⟨#[]⟩) : Value).cells.size = 1 := by kernel_rfl
@[simp] theorem zc_12 : ((Value.int IntKind.u64 0) : Value).cells.size = 1 := by kernel_rfl
@[simp] theorem zc_13 : ((Value.agg #[Value.string ⟨#[]⟩, Value.int IntKind.u64 0]) : Value).cells.size = 2 := by kernel_rfl
@[simp] theorem zc_14 : ((Value.agg #[Value.string ⟨#[]⟩, Value.int IntKind.u64 0]) : Value).cells.size = 2 := by kernel_rfl
@[simp] theorem zc_15 : ((Value.pointer none) : Value).cells.size = 1 := by kernel_rfl
@[simp] theorem zc_16 : ((Value.pointer none) : Value).cells.size = 1 := by kernel_rfl
@[simp] theorem zc_17 : ((Value.pointer none) : Value).cells.size = 1 := by kernel_rfl
@[simp] theorem zc_18 : ((Value.agg #[Value.pointer none]) : Value).cells.size = 1 := by kernel_rfl
@[simp] theorem zc_19 : ((Value.agg #[Value.pointer none]) : Value).cells.size = 1 := by kernel_rfl
@[simp] theorem zc_20 : (Value.nilIface : Value).cells.size = 1 := by kernel_rfl
@[simp] theorem zc_21 : ((Value.int IntKind.i32 0) : Value).cells.size = 1 := by kernel_rfl
@[simp] theorem zc_22 : ((Value.slice none 0 0) : Value).cells.size = 1 := by kernel_rfl
@[simp] theorem zc_23 : (Value.nilFunc : Value).cells.size = 1 := by kernel_rfl
@[simp] theorem zc_24 : ((Value.pointer none) : Value).cells.size = 1 := by kernel_rfl
@[simp] theorem zc_25 : (Value.nilFunc : Value).cells.size = 1 := by kernel_rfl
@[simp] theorem zc_26 : ((Value.slice none 0 0) : Value).cells.size = 1 := by kernel_rfl
@[simp] theorem zc_27 : ((Value.agg #[Value.int IntKind.i64 0, Value.int IntKind.i64 0, Value.int IntKind.i64 0]) : Value).cells.size = 3 := by kernel_rfl
@[simp] theorem zc_28 : ((Value.agg #[Value.int IntKind.i64 0, Value.int IntKind.i64 0, Value.int IntKind.i64 0]) : Value).cells.size = 3 := by kernel_rfl
@[simp] theorem zc_29 : ((Value.agg #[Value.int IntKind.i64 0, Value.int IntKind.i64 0]) : Value).cells.size = 2 := by kernel_rfl
@[simp] theorem zc_30 : ((Value.agg #[Value.int IntKind.i64 0, Value.int IntKind.i64 0]) : Value).cells.size = 2 := by kernel_rfl
@[simp] theorem zc_31 : ((Value.tuple #[Value.agg #[Value.int IntKind.i64 0, Value.int IntKind.i64 0], Value.bool false]) : Value).cells.size = 1 := by kernel_rfl
@[simp] theorem zc_32 : (Value.nilFunc : Value).cells.size = 1 := by kernel_rfl
@[simp] theorem zc_33 : (Value.nilFunc : Value).cells.size = 1 := by kernel_rfl
@[simp] theorem zc_34 : (Value.nilFunc : Value).cells.size = 1 := by kernel_rfl
@[simp] theorem zc_35 : (Value.nilFunc : Value).cells.size = 1 := by kernel_rfl
@[simp] theorem zc_36 : ((Value.slice none 0 0) : Value).cells.size = 1 := by kernel_rfl
@[simp] theorem zc_37 : ((Value.slice none 0 0) : Value).cells.size = 1 := by kernel_rfl
@[simp] theorem zc_38 : (Value.nilFunc : Value).cells.size = 1 := by kernel_rfl
@[simp] theorem zc_39 : (Value.nilFunc : Value).cells.size = 1 := by kernel_rfl
@[simp] theorem zc_40 : (Value.nilFunc : Value).cells.size = 1 := by kernel_rfl
@[simp] theorem zc_41 : (Value.nilFunc : Value).cells.size = 1 := by kernel_rfl
@[simp] theorem zc_42 : (Value.nilFunc : Value).cells.size = 1 := by kernel_rfl
@[simp] theorem zc_43 : (Value.nilFunc : Value).cells.size = 1 := by kernel_rfl
@[simp] theorem zc_44 : ((Value.agg #[Value.int IntKind.i64 0, Value.slice none 0 0]) : Value).cells.size = 2 := by kernel_rfl
@[simp] theorem zc_45 : ((Value.agg #[Value.int IntKind.i64 0, Value.slice none 0 0]) : Value).cells.size = 2 := by kernel_rfl
@[simp] theorem zc_46 : (Value.nilFunc : Value).cells.size = 1 := by kernel_rfl
@[simp] theorem zc_47 : (Value.nilFunc : Value).cells.size = 1 := by kernel_rfl
@[simp] theorem zc_48 : (Value.nilFunc : Value).cells.size = 1 := by kernel_rfl
@[simp] theorem zc_49 : ((Value.int IntKind.u64 0) : Value).cells.size = 1 := by kernel_rfl
@[simp] theorem zc_50 : ((Value.tuple #[Value.int IntKind.u64 0, Value.int IntKind.u64 0]) : Value).cells.size = 1 := by kernel_rfl
@[simp] theorem zc_51 : (Value.nilFunc : Value).cells.size = 1 := by kernel_rfl
@[simp] theorem zc_52 : ((Value.int IntKind.u32 0) : Value).cells.size = 1 := by kernel_rfl
@[simp] theorem zc_53 : ((Value.tuple #[Value.int IntKind.u32 0, Value.int IntKind.u32 0]) : Value).cells.size = 1 := by kernel_rfl
@[simp] theorem zc_54 : (Value.nilFunc : Value).cells.size = 1 := by kernel_rfl
@[simp] theorem zc_55 : ((Value.int IntKind.u64 0) : Value).cells.size = 1 := by kernel_rfl
@[simp] theorem zc_56 : ((Value.tuple #[Value.int IntKind.u64 0, Value.int IntKind.u64 0]) : Value).cells.size = 1 := by kernel_rfl
@[simp] theorem zc_57 : (Value.nilFunc : Value).cells.size = 1 := by kernel_rfl
@[simp] theorem zc_58 : (Value.nilFunc : Value).cells.size = 1 := by kernel_rfl
@[simp] theorem zc_59 : (Value.nilFunc : Value).cells.size = 1 := by kernel_rfl
@[simp] theorem zc_60 : (Value.nilFunc : Value).cells.size = 1 := by kernel_rfl
@[simp] theorem zc_61 : ((Value.agg #[Value.pointer none, Value.pointer none, Value.pointer none, Value.string ⟨#[]⟩]) : Value).cells.size = 4 := by kernel_rfl
@[simp] theorem zc_62 : ((Value.agg #[Value.pointer none, Value.pointer none, Value.pointer none, Value.string ⟨#[]⟩]) : Value).cells.size = 4 := by kernel_rfl
@[simp] theorem zc_63 : ((Value.agg #[]) : Value).cells.size = 0 := by kernel_rfl
@[simp] theorem zc_64 : ((Value.agg #[]) : Value).cells.size = 0 := by kernel_rfl
@[simp] theorem zc_65 : ((Value.agg #[]) : Value).cells.size = 0 := by kernel_rfl
@[simp] theorem zc_66 : ((Value.int IntKind.u8 0) : Value).cells.size = 1 := by kernel_rfl
@[simp] theorem zc_67 : ((Value.int IntKind.u8 0) : Value).cells.size = 1 := by kernel_rfl
@[simp] theorem zc_68 : (Value.nilFunc : Value).cells.size = 1 := by kernel_rfl
@[simp] theorem zc_69 : ((Value.pointer none) : Value).cells.size = 1 := by kernel_rfl
@[simp] theorem zc_70 : ((Value.int IntKind.i32 0) : Value).cells.size = 1 := by kernel_rfl
@[simp] theorem zc_71 : ((Value.int IntKind.i32 0) : Value).cells.size = 1 := by kernel_rfl
@[simp] theorem zc_72 : ((Value.agg #[Value.int IntKind.u64 0, Value.int IntKind.u64 0, Value.int IntKind.u32 0, Value.int IntKind.u8 0, Value.int IntKind.u8 0, Value.int IntKind.u8 0, Value.int IntKind.u8 0, Value.nilFunc, Value.pointer none, Value.int IntKind.i32 0, Value.int IntKind.i32 0]) : Value).cells.size = 11 := by kernel_rfl
@[simp] theorem zc_73 : ((Value.agg #[Value.int IntKind.u64 0, Value.int IntKind.u64 0, Value.int IntKind.u32 0, Value.int IntKind.u8 0, Value.int IntKind.u8 0, Value.int IntKind.u8 0, Value.int IntKind.u8 0, Value.nilFunc, Value.pointer none, Value.int IntKind.i32 0, Value.int IntKind.i32 0]) : Value).cells.size = 11 := by kernel_rfl
@[simp] theorem zc_74 : ((Value.pointer none) : Value).cells.size = 1 := by kernel_rfl
@[simp] theorem mixed : prog.follows .mixedOrders = true := by kernel_rfl
end Go.Proofs.Try
