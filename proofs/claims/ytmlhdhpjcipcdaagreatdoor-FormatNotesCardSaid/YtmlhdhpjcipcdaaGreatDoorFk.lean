/- Part of the proof: contracts of the functions, walked by the D-machine. No condition. -/
import Derived.Test.YtmlhdhpjcipcdaaGreatDoorFh
set_option linter.unusedSimpArgs false
set_option linter.unusedVariables false
set_option maxHeartbeats 16000000
set_option maxRecDepth 100000
namespace Go.Proofs.Dm
open Go Go.Proofs Go.Proofs.Tryz Go.Proofs.Dm.Sc
namespace Fo
attribute [local simp] encT takes handsOn isTmp Op.operands Call.operands
def noS (a b c : Bool) : ByteArray :=
  let s0 : ByteArray := ⟨#[112, 97, 99, 107, 97, 103, 101, 32, 112, 10, 102, 117, 110, 99, 32, 102, 40, 41, 32, 123]⟩
  let s1 := bif a then s0 ++ ⟨#[47, 47, 32, 97]⟩ else s0
  let s2 := s1 ++ ⟨#[10]⟩
  let s3 := bif c then s2 ++ ⟨#[47, 47, 32, 98, 32, 32, 10]⟩ else s2
  let s4 := s3 ++ ⟨#[120]⟩
  let s5 := bif b then s4 ++ ⟨#[47, 47, 32, 99]⟩ else s4
  let s6 := s5 ++ ⟨#[10, 125, 47, 47, 32, 100, 10, 47, 47, 32, 101]⟩
  s6
def noW (a b c : Bool) : ByteArray :=
  let s0 : ByteArray := ⟨#[112, 97, 99, 107, 97, 103, 101, 32, 112, 10, 102, 117, 110, 99, 32, 102, 40, 41, 32, 123]⟩
  let s1 := bif a then s0 ++ ⟨#[32, 47, 47, 32, 97]⟩ else s0
  let s2 := s1 ++ ⟨#[10]⟩
  let s3 := bif c then s2 ++ ⟨#[9, 47, 47, 32, 98, 10]⟩ else s2
  let s4 := s3 ++ ⟨#[9, 120]⟩
  let s5 := bif b then s4 ++ ⟨#[32, 47, 47, 32, 99]⟩ else s4
  let s6 := s5 ++ ⟨#[10, 125, 32, 47, 47, 32, 100, 10, 47, 47, 32, 101, 10]⟩
  s6
def noOK (a b c : Bool) : Bool := fmtE (noS a b c) == some ((noW a b c).data.toList, -1)
theorem no_ttt : noOK true true true = true := by kernel_rfl
theorem no_ttf : noOK true true false = true := by kernel_rfl
theorem no_tft : noOK true false true = true := by kernel_rfl
theorem no_tff : noOK true false false = true := by kernel_rfl
theorem no_ftt : noOK false true true = true := by kernel_rfl
theorem no_ftf : noOK false true false = true := by kernel_rfl
theorem no_fft : noOK false false true = true := by kernel_rfl
theorem no_fff : noOK false false false = true := by kernel_rfl
theorem no_all : ∀ a b c, noOK a b c = true
  | true, true, true => no_ttt
  | true, true, false => no_ttf
  | true, false, true => no_tft
  | true, false, false => no_tff
  | false, true, true => no_ftt
  | false, true, false => no_ftf
  | false, false, true => no_fft
  | false, false, false => no_fff
theorem no_size : ∀ a b c, (noS a b c).size < 100000
  | true, true, true => Nat.le_of_ble_eq_true rfl
  | true, true, false => Nat.le_of_ble_eq_true rfl
  | true, false, true => Nat.le_of_ble_eq_true rfl
  | true, false, false => Nat.le_of_ble_eq_true rfl
  | false, true, true => Nat.le_of_ble_eq_true rfl
  | false, true, false => Nat.le_of_ble_eq_true rfl
  | false, false, true => Nat.le_of_ble_eq_true rfl
  | false, false, false => Nat.le_of_ble_eq_true rfl
theorem notes_ok {W0 nb} (h2 : 2 ≤ nb) (hT : Lib.Utf8Tabs 0 1 W0) {a b c : Bool} : DCalls ⟨Tryz.prog, W0, nb⟩ 12 [.p (.bool a), .p (.bool b), .p (.bool c)] [] (.p (.bool true)) [] := by
  have hk := beq_iff_eq.1 (show (fmtE (noS a b c) == some ((noW a b c).data.toList, -1)) = true from no_all a b c)
  have ct := fmt_eval (W0 := W0) (nb := nb) h2 hT (no_size a b c) hk
  have e3 : (⟨(noW a b c).data.toList.toArray⟩ : ByteArray) = noW a b c := rfl
  rw [e3] at ct
  clear e3 hk
  have sz : ∀ x : Array UInt8, (⟨x⟩ : ByteArray).size = x.size := fun _ => rfl
  refine dcalls_end Tryz.func12 rfl (by kernel_rfl) 52 Tryz.ntmps12 #[.tmp 6] rfl (Nat.le_of_ble_eq_true rfl) ?_
  simp
  refine CallGoal.same (begun17_ok h2 hT) ?_
  simp
  cases a <;> cases b <;> cases c
  all_goals
    simp only [noS, noW, cond_true, cond_false] at ct
    simp [sz]
    refine CallGoal.same ct ?_
    simp [sz]
    exact .kk
end Fo
end Go.Proofs.Dm
