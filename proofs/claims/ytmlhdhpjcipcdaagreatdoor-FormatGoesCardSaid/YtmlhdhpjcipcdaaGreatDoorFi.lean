/- Part of the proof: contracts of the functions, walked by the D-machine. No condition. -/
import Derived.Test.YtmlhdhpjcipcdaaGreatDoorFh
set_option linter.unusedSimpArgs false
set_option linter.unusedVariables false
set_option maxHeartbeats 16000000
set_option maxRecDepth 100000
namespace Go.Proofs.Dm
open Go Go.Proofs Go.Proofs.Tryz Go.Proofs.Dm.Sc
namespace Fo
attribute [local simp] encT takes handsOn isTmp Op.operands Call.operands
def goS_ : Nat → ByteArray
  | 0 => ⟨#[112, 97, 99, 107, 97, 103, 101, 32, 112, 10, 102, 117, 110, 99, 32, 102, 40, 41, 32, 123, 10, 120, 32, 61, 32, 49]⟩
  | i + 1 => goS_ i ++ ⟨#[43, 47, 47, 32, 99, 10, 50]⟩
def goW_ : Nat → ByteArray
  | 0 => ⟨#[112, 97, 99, 107, 97, 103, 101, 32, 112, 10, 102, 117, 110, 99, 32, 102, 40, 41, 32, 123, 10, 9, 120, 32, 61, 32, 49]⟩
  | i + 1 => goW_ i ++ ⟨#[32, 43, 32, 47, 47, 32, 99, 10, 9, 9, 50]⟩
def goOK (n : Nat) : Bool := fmtE (goS_ n ++ ⟨#[10, 125]⟩) == some ((goW_ n ++ ⟨#[10, 125, 10]⟩).data.toList, -1)
theorem go_all : ((List.range 10).all fun i => goOK (i + 1)) = true := by kernel_rfl
theorem goS_size (n : Nat) : (goS_ n).size ≤ 100 + 20 * n := by
  induction n with
  | zero => exact Nat.le_of_ble_eq_true rfl
  | succ n ih =>
    have e1 : (⟨#[43, 47, 47, 32, 99, 10, 50]⟩ : ByteArray).size = 7 := rfl
    simp only [goS_, ByteArray.size_append, e1]; omega
theorem goW_size (n : Nat) : (goW_ n).size ≤ 100 + 20 * n := by
  induction n with
  | zero => exact Nat.le_of_ble_eq_true rfl
  | succ n ih =>
    have e1 : (⟨#[32, 43, 32, 47, 47, 32, 99, 10, 9, 9, 50]⟩ : ByteArray).size = 11 := rfl
    simp only [goW_, ByteArray.size_append, e1]; omega
def goI (n : Nat) (m : Nat) (st : St) : Prop := ∃ i : Nat, m = n - i ∧ i ≤ n ∧ st.hp = [] ∧ st.tm 0 = i64 (n : Nat) ∧ st.tm 4 = .p (.str (goS_ i)) ∧ st.tm 5 = .p (.str (goW_ i)) ∧ st.tm 6 = i64 (i : Nat)
def goJ (n : Nat) (st : St) : Prop := st.hp = [] ∧ st.tm 4 = .p (.str (goS_ n)) ∧ st.tm 5 = .p (.str (goW_ n))
theorem goes_ok {W0 nb} (h2 : 2 ≤ nb) (hT : Lib.Utf8Tabs 0 1 W0) {n : Int} : DCalls ⟨Tryz.prog, W0, nb⟩ 14 [i64 n] [] (.p (.bool true)) [] := by
  refine dcalls_end Tryz.func14 rfl (by kernel_rfl) 41 Tryz.ntmps14 #[.tmp 2] rfl (Nat.le_of_ble_eq_true rfl) ?_
  simp
  refine CallGoal.same (begun17_ok h2 hT) ?_
  simp
  cases h1 : decide (n < 1) with
  | true =>
    have h1' := of_decide_eq_true h1
    simp [h1']
    exact .kk
  | false =>
  have h1' := of_decide_eq_false h1
  simp [h1']
  cases h8 : decide (10 < n) with
  | true =>
    have h8' := of_decide_eq_true h8
    simp [h8']
    exact .kk
  | false =>
  have h8' := of_decide_eq_false h8
  obtain ⟨k, rfl⟩ : ∃ k : Nat, n = (k : Int) := ⟨n.toNat, by omega⟩
  simp [h8']
  refine LoopGoal.cut (goJ k) ?_ ?_
  · refine ⟨goI k, k, .here ⟨0, by simp, by simp, by simp, by simp, by simp [goS_], by simp [goW_], by simp⟩, ?_⟩
    rintro m ⟨tm, hp⟩ ⟨i, rfl, hi, h0, g0, g4, g5, g6⟩
    simp only at h0 g0 g4 g5 g6
    subst h0
    simp [g0, g6]
    rcases Nat.lt_or_ge i k with hlt | hge
    · have hs := goS_size i
      have hw2 := goW_size i
      have hw := w64_id (n := (i : Int) + 1) (by omega) (by omega)
      simp only [w64] at hw
      have e1 : (⟨#[43, 47, 47, 32, 99, 10, 50]⟩ : ByteArray).size = 7 := rfl
      have e2 : (⟨#[32, 43, 32, 47, 47, 32, 99, 10, 9, 9, 50]⟩ : ByteArray).size = 11 := rfl
      have w1 : ¬ (9223372036854775807 : Int) < ((goS_ i).size : Int) + (⟨#[43, 47, 47, 32, 99, 10, 50]⟩ : ByteArray).size := by rw [e1]; omega
      have w2 : ¬ (9223372036854775807 : Int) < ((goW_ i).size : Int) + (⟨#[32, 43, 32, 47, 47, 32, 99, 10, 9, 9, 50]⟩ : ByteArray).size := by rw [e2]; omega
      simp [hlt, g4, g5, g6, w1, w2, hw]
      exact .same (k - (i + 1)) (by omega) ⟨i + 1, rfl, by omega, by simp, by simp [g0], by simp [goS_], by simp [goW_], by simp [hw]⟩
    · have : i = k := by omega
      subst this
      simp
      exact ⟨by simp, by simp [g4], by simp [g5]⟩
  rintro ⟨tm, hp⟩ ⟨e0, g4, g5⟩
  simp only at e0 g4 g5
  subst e0
  have hk := List.all_eq_true.1 go_all (k - 1) (List.mem_range.2 (by omega))
  rw [show k - 1 + 1 = k by omega] at hk
  have hk2 := beq_iff_eq.1 (show (fmtE (goS_ k ++ ⟨#[10, 125]⟩) == some ((goW_ k ++ ⟨#[10, 125, 10]⟩).data.toList, -1)) = true from hk)
  have hs := goS_size k
  have hw2 := goW_size k
  have e1 : (⟨#[10, 125]⟩ : ByteArray).size = 2 := rfl
  have e2 : (⟨#[10, 125, 10]⟩ : ByteArray).size = 3 := rfl
  have ct := fmt_eval (W0 := W0) (nb := nb) h2 hT (by rw [ByteArray.size_append, e1]; omega) hk2
  have w1 : ¬ (9223372036854775807 : Int) < ((goS_ k).size : Int) + (⟨#[10, 125]⟩ : ByteArray).size := by rw [e1]; omega
  have w2 : ¬ (9223372036854775807 : Int) < ((goW_ k).size : Int) + (⟨#[10, 125, 10]⟩ : ByteArray).size := by rw [e2]; omega
  have e3 : (⟨(goW_ k ++ ⟨#[10, 125, 10]⟩).data.toList.toArray⟩ : ByteArray) = goW_ k ++ ⟨#[10, 125, 10]⟩ := rfl
  rw [e3] at ct
  simp [g4, w1]
  refine CallGoal.same ct ?_
  simp [g5, w2]
  exact .kk
end Fo
end Go.Proofs.Dm
