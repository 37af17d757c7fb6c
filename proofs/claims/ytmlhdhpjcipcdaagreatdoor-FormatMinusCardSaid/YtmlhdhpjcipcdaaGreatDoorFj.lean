/- Part of the proof: contracts of the functions, walked by the D-machine. No condition. -/
import Derived.Test.YtmlhdhpjcipcdaaGreatDoorFh
set_option linter.unusedSimpArgs false
set_option linter.unusedVariables false
set_option maxHeartbeats 16000000
set_option maxRecDepth 100000
namespace Go.Proofs.Dm
open Go Go.Proofs Go.Proofs.Tryz Go.Proofs.Dm.Sc
namespace Fo
attribute [local simp] encT takes handsOn isTmp Op.operands Call.operands
def miS : Nat → ByteArray
  | 0 => ⟨#[97, 45]⟩
  | i + 1 => miS i ++ ⟨#[32, 45, 32]⟩
def miW : Nat → ByteArray
  | 0 => ⟨#[97, 32, 45, 32]⟩
  | i + 1 => miW i ++ ⟨#[45]⟩
def miA (p : Bool) : ByteArray := if p then ⟨#[40, 32, 98, 32, 41]⟩ else ⟨#[98]⟩
def miB (p : Bool) : ByteArray := if p then ⟨#[40, 98, 41]⟩ else ⟨#[98]⟩
def miOK (n : Nat) (p : Bool) : Bool := fmtE ((⟨#[112, 97, 99, 107, 97, 103, 101, 32, 112, 10, 118, 97, 114, 32, 120, 32, 105, 110, 116, 61]⟩ : ByteArray) ++ (miS n ++ miA p)) == some (((⟨#[112, 97, 99, 107, 97, 103, 101, 32, 112, 10, 118, 97, 114, 32, 120, 32, 105, 110, 116, 32, 61, 32]⟩ : ByteArray) ++ (miW n ++ miB p) ++ ⟨#[10]⟩).data.toList, -1)
theorem mi_all1 : ((List.range 21).all fun i => miOK i true) = true := by kernel_rfl
theorem mi_all2 : ((List.range 21).all fun i => miOK i false) = true := by kernel_rfl
theorem miS_size (n : Nat) : (miS n).size ≤ 100 + 20 * n := by
  induction n with
  | zero => exact Nat.le_of_ble_eq_true rfl
  | succ n ih =>
    have e1 : (⟨#[32, 45, 32]⟩ : ByteArray).size = 3 := rfl
    simp only [miS, ByteArray.size_append, e1]; omega
theorem miW_size (n : Nat) : (miW n).size ≤ 100 + 20 * n := by
  induction n with
  | zero => exact Nat.le_of_ble_eq_true rfl
  | succ n ih =>
    have e1 : (⟨#[45]⟩ : ByteArray).size = 1 := rfl
    simp only [miW, ByteArray.size_append, e1]; omega
def miI (n : Nat) (p : Bool) (m : Nat) (st : St) : Prop := ∃ i : Nat, m = n - i ∧ i ≤ n ∧ st.hp = [] ∧ st.tm 0 = i64 (n : Nat) ∧ st.tm 1 = .p (.bool p) ∧ st.tm 6 = .p (.str (miS i)) ∧ st.tm 7 = .p (.str (miW i)) ∧ st.tm 8 = i64 (i : Nat)
def miJ (n : Nat) (p : Bool) (st : St) : Prop := st.hp = [] ∧ st.tm 1 = .p (.bool p) ∧ st.tm 6 = .p (.str (miS n)) ∧ st.tm 7 = .p (.str (miW n))
theorem minus_ok {W0 nb} (h2 : 2 ≤ nb) (hT : Lib.Utf8Tabs 0 1 W0) {n : Int} {p : Bool} : DCalls ⟨Tryz.prog, W0, nb⟩ 13 [i64 n, .p (.bool p)] [] (.p (.bool true)) [] := by
  refine dcalls_end Tryz.func13 rfl (by kernel_rfl) 53 Tryz.ntmps13 #[.tmp 4] rfl (Nat.le_of_ble_eq_true rfl) ?_
  simp
  refine CallGoal.same (begun17_ok h2 hT) ?_
  simp
  cases h1 : decide (n < 0) with
  | true =>
    have h1' := of_decide_eq_true h1
    simp [h1']
    exact .kk
  | false =>
  have h1' := of_decide_eq_false h1
  simp [h1']
  cases h8 : decide (20 < n) with
  | true =>
    have h8' := of_decide_eq_true h8
    simp [h8']
    exact .kk
  | false =>
  have h8' := of_decide_eq_false h8
  obtain ⟨k, rfl⟩ : ∃ k : Nat, n = (k : Int) := ⟨n.toNat, by omega⟩
  simp [h8']
  refine LoopGoal.cut (miJ k p) ?_ ?_
  · refine ⟨miI k p, k, .here ⟨0, by simp, by simp, by simp, by simp, by simp, by simp [miS], by simp [miW], by simp⟩, ?_⟩
    rintro m ⟨tm, hp⟩ ⟨i, rfl, hi, h0, g0, g1, g6, g7, g8⟩
    simp only at h0 g0 g1 g6 g7 g8
    subst h0
    simp [g0, g8]
    rcases Nat.lt_or_ge i k with hlt | hge
    · have hs := miS_size i
      have hw2 := miW_size i
      have hw := w64_id (n := (i : Int) + 1) (by omega) (by omega)
      simp only [w64] at hw
      have e1 : (⟨#[32, 45, 32]⟩ : ByteArray).size = 3 := rfl
      have e2 : (⟨#[45]⟩ : ByteArray).size = 1 := rfl
      have w1 : ¬ (9223372036854775807 : Int) < ((miS i).size : Int) + (⟨#[32, 45, 32]⟩ : ByteArray).size := by rw [e1]; omega
      have w2 : ¬ (9223372036854775807 : Int) < ((miW i).size : Int) + (⟨#[45]⟩ : ByteArray).size := by rw [e2]; omega
      simp [hlt, g6, g7, g8, w1, w2, hw]
      exact .same (k - (i + 1)) (by omega) ⟨i + 1, rfl, by omega, by simp, by simp [g0], by simp [g1], by simp [miS], by simp [miW], by simp [hw]⟩
    · have : i = k := by omega
      subst this
      simp
      exact ⟨by simp, by simp [g1], by simp [g6], by simp [g7]⟩
  rintro ⟨tm, hp⟩ ⟨e0, g1, g6, g7⟩
  simp only at e0 g1 g6 g7
  subst e0
  have hk : miOK k p = true := by
    cases p
    · exact List.all_eq_true.1 mi_all2 k (List.mem_range.2 (by omega))
    · exact List.all_eq_true.1 mi_all1 k (List.mem_range.2 (by omega))
  have hk2 := beq_iff_eq.1 (show (fmtE ((⟨#[112, 97, 99, 107, 97, 103, 101, 32, 112, 10, 118, 97, 114, 32, 120, 32, 105, 110, 116, 61]⟩ : ByteArray) ++ (miS k ++ miA p)) == some (((⟨#[112, 97, 99, 107, 97, 103, 101, 32, 112, 10, 118, 97, 114, 32, 120, 32, 105, 110, 116, 32, 61, 32]⟩ : ByteArray) ++ (miW k ++ miB p) ++ ⟨#[10]⟩).data.toList, -1)) = true from hk)
  have hs := miS_size k
  have hw2 := miW_size k
  have ha : (miA p).size ≤ 5 := by cases p <;> exact Nat.le_of_ble_eq_true rfl
  have hb : (miB p).size ≤ 5 := by cases p <;> exact Nat.le_of_ble_eq_true rfl
  have e1 : (⟨#[112, 97, 99, 107, 97, 103, 101, 32, 112, 10, 118, 97, 114, 32, 120, 32, 105, 110, 116, 61]⟩ : ByteArray).size = 20 := rfl
  have e2 : (⟨#[112, 97, 99, 107, 97, 103, 101, 32, 112, 10, 118, 97, 114, 32, 120, 32, 105, 110, 116, 32, 61, 32]⟩ : ByteArray).size = 22 := rfl
  have e4 : (⟨#[10]⟩ : ByteArray).size = 1 := rfl
  have ct := fmt_eval (W0 := W0) (nb := nb) h2 hT (by simp only [ByteArray.size_append, e1]; omega) hk2
  have w1 : ¬ (9223372036854775807 : Int) < ((miS k).size : Int) + (miA p).size := by omega
  have w2 : ¬ (9223372036854775807 : Int) < ((miW k).size : Int) + (miB p).size := by omega
  have w3 : ¬ (9223372036854775807 : Int) < ((⟨#[112, 97, 99, 107, 97, 103, 101, 32, 112, 10, 118, 97, 114, 32, 120, 32, 105, 110, 116, 61]⟩ : ByteArray).size : Int) + ((miS k).size + (miA p).size) := by rw [e1]; omega
  have w4 : ¬ (9223372036854775807 : Int) < ((⟨#[112, 97, 99, 107, 97, 103, 101, 32, 112, 10, 118, 97, 114, 32, 120, 32, 105, 110, 116, 32, 61, 32]⟩ : ByteArray).size : Int) + ((miW k).size + (miB p).size) := by rw [e2]; omega
  have w5 : ¬ (9223372036854775807 : Int) < ((⟨#[112, 97, 99, 107, 97, 103, 101, 32, 112, 10, 118, 97, 114, 32, 120, 32, 105, 110, 116, 32, 61, 32]⟩ : ByteArray).size : Int) + ((miW k).size + (miB p).size) + (⟨#[10]⟩ : ByteArray).size := by rw [e2, e4]; omega
  have e3 : (⟨((⟨#[112, 97, 99, 107, 97, 103, 101, 32, 112, 10, 118, 97, 114, 32, 120, 32, 105, 110, 116, 32, 61, 32]⟩ : ByteArray) ++ (miW k ++ miB p) ++ ⟨#[10]⟩).data.toList.toArray⟩ : ByteArray) = (⟨#[112, 97, 99, 107, 97, 103, 101, 32, 112, 10, 118, 97, 114, 32, 120, 32, 105, 110, 116, 32, 61, 32]⟩ : ByteArray) ++ (miW k ++ miB p) ++ ⟨#[10]⟩ := rfl
  rw [e3] at ct
  clear hk hk2 e3
  generalize miS k = S at *
  generalize miW k = W at *
  cases p with
  | true =>
    simp only [miA, miB, if_true] at ct w1 w2 w3 w4 w5
    simp [g1, g6, g7, w1, w2]
    simp [w3]
    refine CallGoal.same ct ?_
    simp [w4, w5]
    exact .kk
  | false =>
    simp only [miA, miB, Bool.false_eq_true, if_false] at ct w1 w2 w3 w4 w5
    simp [g1, g6, g7, w1, w2]
    simp [w3]
    refine CallGoal.same ct ?_
    simp [w4, w5]
    exact .kk
end Fo
end Go.Proofs.Dm
