/- Part of the proof: contracts of the functions, walked by the D-machine. No condition. -/
import Derived.Test.YtmlhdhpjcipcdaaGreatDoorFh
set_option linter.unusedSimpArgs false
set_option linter.unusedVariables false
set_option maxHeartbeats 16000000
set_option maxRecDepth 100000
namespace Go.Proofs.Dm
open Go Go.Proofs Go.Proofs.Tryz Go.Proofs.Dm.Sc
namespace Fo
attribute [local simp] encT takes handsOn isTmp Op.operands Call.operands
def tb : Nat → ByteArray
  | 0 => ⟨#[9]⟩
  | i + 1 => tb i ++ ⟨#[9]⟩
def dS : Nat → ByteArray
  | 0 => ⟨#[112, 97, 99, 107, 97, 103, 101, 32, 112, 10, 102, 117, 110, 99, 32, 102, 40, 41, 32, 123]⟩
  | i + 1 => dS i ++ ⟨#[123]⟩
def dW : Nat → ByteArray
  | 0 => ⟨#[112, 97, 99, 107, 97, 103, 101, 32, 112, 10, 102, 117, 110, 99, 32, 102, 40, 41, 32, 123, 10]⟩
  | i + 1 => dW i ++ (tb i ++ ⟨#[123, 10]⟩)
def eS (n : Nat) (p : Bool) : Nat → ByteArray
  | 0 => dS n ++ ⟨#[120]⟩
  | i + 1 => (bif p then eS n p i else eS n p i ++ ⟨#[10]⟩) ++ ⟨#[125]⟩
def eW (n : Nat) : Nat → ByteArray
  | 0 => dW n ++ (tb n ++ ⟨#[120, 10]⟩)
  | i + 1 => eW n i ++ (tb (n - (i + 1)) ++ ⟨#[125, 10]⟩)
def deOK (p : Bool) (n : Nat) : Bool := fmtE (eS n p n ++ ⟨#[125]⟩) == some ((eW n n ++ ⟨#[125, 10]⟩).data.toList, -1)
theorem de_all1 : ((List.range 11).all fun i => deOK true i) = true := by kernel_rfl
theorem de_all2 : ((List.range 11).all fun i => deOK false i) = true := by kernel_rfl
theorem de_all3 : ((List.range 10).all fun i => deOK true (i + 11)) = true := by kernel_rfl
theorem de_all4 : ((List.range 10).all fun i => deOK false (i + 11)) = true := by kernel_rfl
theorem de_all (p : Bool) (n : Nat) (h : n ≤ 20) : deOK p n = true := by
  rcases Nat.lt_or_ge n 11 with h1 | h1
  · cases p
    · exact List.all_eq_true.1 de_all2 n (List.mem_range.2 h1)
    · exact List.all_eq_true.1 de_all1 n (List.mem_range.2 h1)
  · have e : n - 11 + 11 = n := by omega
    cases p
    · have := List.all_eq_true.1 de_all4 (n - 11) (List.mem_range.2 (by omega))
      rwa [e] at this
    · have := List.all_eq_true.1 de_all3 (n - 11) (List.mem_range.2 (by omega))
      rwa [e] at this
theorem tb_size (n : Nat) : (tb n).size = n + 1 := by
  induction n with
  | zero => rfl
  | succ n ih =>
    have e1 : (⟨#[9]⟩ : ByteArray).size = 1 := rfl
    simp only [tb, ByteArray.size_append, e1]; omega
theorem tb_tail (n : Nat) (h : n < 20) : (tb (n + 1)).extract 1 (tb (n + 1)).size = tb n := by
  have h1 : (List.range 20).all (fun n => ((tb (n + 1)).extract 1 (tb (n + 1)).size).toList == (tb n).toList) = true := by kernel_rfl
  have := beq_iff_eq.1 (List.all_eq_true.1 h1 n (List.mem_range.2 h))
  have h3 := congrArg List.toArray this
  rw [Lib.toList_data, Lib.toList_data] at h3
  exact ByteArray.ext h3
theorem dS_size (n : Nat) : (dS n).size ≤ 100 + 20 * n := by
  induction n with
  | zero => exact Nat.le_of_ble_eq_true rfl
  | succ n ih =>
    have e1 : (⟨#[123]⟩ : ByteArray).size = 1 := rfl
    simp only [dS, ByteArray.size_append, e1]; omega
theorem dW_size (n : Nat) : n ≤ 20 → (dW n).size ≤ 100 + 30 * n := by
  induction n with
  | zero => intro _; exact Nat.le_of_ble_eq_true rfl
  | succ n ih =>
    intro h
    have := ih (by omega)
    have e1 : (⟨#[123, 10]⟩ : ByteArray).size = 2 := rfl
    simp only [dW, ByteArray.size_append, e1, tb_size]; omega
theorem eS_size (n : Nat) (p : Bool) (i : Nat) : (eS n p i).size ≤ 200 + 20 * n + 20 * i := by
  induction i with
  | zero =>
    have := dS_size n
    have e1 : (⟨#[120]⟩ : ByteArray).size = 1 := rfl
    simp only [eS, ByteArray.size_append, e1]; omega
  | succ i ih =>
    have e1 : (⟨#[125]⟩ : ByteArray).size = 1 := rfl
    have e2 : (⟨#[10]⟩ : ByteArray).size = 1 := rfl
    cases p <;> simp only [eS, ByteArray.size_append, e1, e2, cond_true, cond_false] <;> omega
theorem eW_size (n i : Nat) (hn : n ≤ 20) : (eW n i).size ≤ 200 + 60 * n + 60 * i := by
  induction i with
  | zero =>
    have := dW_size n hn
    have e1 : (⟨#[120, 10]⟩ : ByteArray).size = 2 := rfl
    simp only [eW, ByteArray.size_append, e1, tb_size]; omega
  | succ i ih =>
    have e1 : (⟨#[125, 10]⟩ : ByteArray).size = 2 := rfl
    simp only [eW, ByteArray.size_append, e1, tb_size]; omega
def deI (n : Nat) (p : Bool) (m : Nat) (st : St) : Prop := ∃ i : Nat, m = n - i ∧ i ≤ n ∧ st.hp = [] ∧ st.tm 0 = i64 (n : Nat) ∧ st.tm 1 = .p (.bool p) ∧ st.tm 6 = .p (.str (dS i)) ∧ st.tm 7 = .p (.str (dW i)) ∧ st.tm 8 = .p (.str (tb i)) ∧ st.tm 9 = i64 (i : Nat)
def deJ (n : Nat) (p : Bool) (st : St) : Prop := st.hp = [] ∧ st.tm 0 = i64 (n : Nat) ∧ st.tm 1 = .p (.bool p) ∧ st.tm 6 = .p (.str (dS n)) ∧ st.tm 7 = .p (.str (dW n)) ∧ st.tm 8 = .p (.str (tb n))
def eeI (n : Nat) (p : Bool) (m : Nat) (st : St) : Prop := ∃ i : Nat, m = n - i ∧ i ≤ n ∧ st.hp = [] ∧ st.tm 0 = i64 (n : Nat) ∧ st.tm 1 = .p (.bool p) ∧ st.tm 6 = .p (.str (eS n p i)) ∧ st.tm 7 = .p (.str (eW n i)) ∧ st.tm 8 = .p (.str (tb (n - i))) ∧ st.tm 10 = i64 (i : Nat)
def eeJ (n : Nat) (p : Bool) (st : St) : Prop := st.hp = [] ∧ st.tm 6 = .p (.str (eS n p n)) ∧ st.tm 7 = .p (.str (eW n n))
theorem deep_ok {W0 nb} (h2 : 2 ≤ nb) (hT : Lib.Utf8Tabs 0 1 W0) {n : Int} {p : Bool} : DCalls ⟨Tryz.prog, W0, nb⟩ 10 [i64 n, .p (.bool p)] [] (.p (.bool true)) [] := by
  have z9 : (⟨#[9]⟩ : ByteArray).size = 1 := rfl
  have z1 : (⟨#[123]⟩ : ByteArray).size = 1 := rfl
  have z2 : (⟨#[123, 10]⟩ : ByteArray).size = 2 := rfl
  have zx : (⟨#[120]⟩ : ByteArray).size = 1 := rfl
  have zy : (⟨#[120, 10]⟩ : ByteArray).size = 2 := rfl
  have zz : (⟨#[125]⟩ : ByteArray).size = 1 := rfl
  have zn : (⟨#[125, 10]⟩ : ByteArray).size = 2 := rfl
  have zl : (⟨#[10]⟩ : ByteArray).size = 1 := rfl
  refine dcalls_end Tryz.func10 rfl (by kernel_rfl) 72 Tryz.ntmps10 #[.tmp 4] rfl (Nat.le_of_ble_eq_true rfl) ?_
  simp
  refine CallGoal.same (begun17_ok h2 hT) ?_
  simp
  cases h1 : decide (n < 0) with
  | true =>
    have h1' := of_decide_eq_true h1
    simp [h1']
    exact .kk
  | false =>
  have h1' := of_decide_eq_false h1
  simp [h1']
  cases h8 : decide (20 < n) with
  | true =>
    have h8' := of_decide_eq_true h8
    simp [h8']
    exact .kk
  | false =>
  have h8' := of_decide_eq_false h8
  obtain ⟨k, rfl⟩ : ∃ k : Nat, n = (k : Int) := ⟨n.toNat, by omega⟩
  simp [h8']
  refine LoopGoal.cut (deJ k p) ?_ ?_
  · refine ⟨deI k p, k, .here ⟨0, by simp, by simp, by simp, by simp, by simp, by simp [dS], by simp [dW], by simp [tb], by simp⟩, ?_⟩
    rintro m ⟨tm, hp⟩ ⟨i, rfl, hi, h0, g0, g1, g6, g7, g8, g9⟩
    simp only at h0 g0 g1 g6 g7 g8 g9
    subst h0
    simp [g0, g9]
    rcases Nat.lt_or_ge i k with hlt | hge
    · have hs := dS_size i
      have hw2 := dW_size i (by omega)
      have ht := tb_size i
      have hw := w64_id (n := (i : Int) + 1) (by omega) (by omega)
      simp only [w64] at hw
      have w1 : ¬ (9223372036854775807 : Int) < ((dS i).size : Int) + (⟨#[123]⟩ : ByteArray).size := by rw [z1]; omega
      have w2 : ¬ (9223372036854775807 : Int) < ((tb i).size : Int) + (⟨#[123, 10]⟩ : ByteArray).size := by rw [z2]; omega
      have w3 : ¬ (9223372036854775807 : Int) < ((dW i).size : Int) + (((tb i).size : Int) + (⟨#[123, 10]⟩ : ByteArray).size) := by rw [z2]; omega
      have w4 : ¬ (9223372036854775807 : Int) < ((tb i).size : Int) + (⟨#[9]⟩ : ByteArray).size := by rw [z9]; omega
      simp [hlt, g6, g7, g8, g9, w1, w2, w3, w4, hw]
      exact .same (k - (i + 1)) (by omega) ⟨i + 1, rfl, by omega, by simp, by simp [g0], by simp [g1], by simp [dS], by simp [dW], by simp [tb], by simp [hw]⟩
    · have : i = k := by omega
      subst this
      simp
      exact ⟨by simp, by simp [g0], by simp [g1], by simp [g6], by simp [g7], by simp [g8]⟩
  rintro ⟨tm, hp⟩ ⟨e0, g0, g1, g6, g7, g8⟩
  simp only at e0 g0 g1 g6 g7 g8
  subst e0
  have hs := dS_size k
  have hw2 := dW_size k (by omega)
  have ht := tb_size k
  have w1 : ¬ (9223372036854775807 : Int) < ((dS k).size : Int) + (⟨#[120]⟩ : ByteArray).size := by rw [zx]; omega
  have w2 : ¬ (9223372036854775807 : Int) < ((tb k).size : Int) + (⟨#[120, 10]⟩ : ByteArray).size := by rw [zy]; omega
  have w3 : ¬ (9223372036854775807 : Int) < ((dW k).size : Int) + (((tb k).size : Int) + (⟨#[120, 10]⟩ : ByteArray).size) := by rw [zy]; omega
  simp [g6, g7, g8, w1, w2, w3]
  refine LoopGoal.cut (eeJ k p) ?_ ?_
  · refine ⟨eeI k p, k, .here ⟨0, by simp, by simp, by simp, by simp [g0], by simp [g1], by simp [eS], by simp [eW], by simp [g8], by simp⟩, ?_⟩
    clear g0 g1 g6 g7 g8 w1 w2 w3 hs hw2 ht
    rintro m ⟨tm, hp⟩ ⟨i, rfl, hi, h0, g0, g1, g6, g7, g8, g10⟩
    simp only at h0 g0 g1 g6 g7 g8 g10
    subst h0
    simp [g0, g10]
    rcases Nat.lt_or_ge i k with hlt | hge
    · have hs := eS_size k p i
      have hw2 := eW_size k i (by omega)
      have hw := w64_id (n := (i : Int) + 1) (by omega) (by omega)
      simp only [w64] at hw
      obtain ⟨j, hj⟩ : ∃ j, k - i = j + 1 := ⟨k - i - 1, by omega⟩
      rw [hj] at g8
      have hj2 : k - (i + 1) = j := by omega
      have ht := tb_size j
      have ht1 := tb_size (j + 1)
      have hx := tb_tail j (by omega)
      rw [ht1] at hx
      have w0 : ¬ (9223372036854775807 : Int) < ((eS k p i).size : Int) + (⟨#[10]⟩ : ByteArray).size := by rw [zl]; omega
      have w1 : ¬ (9223372036854775807 : Int) < ((eS k p i).size : Int) + (⟨#[125]⟩ : ByteArray).size := by rw [zz]; omega
      have w1' : ¬ (9223372036854775807 : Int) < ((eS k p i).size : Int) + (⟨#[10]⟩ : ByteArray).size + (⟨#[125]⟩ : ByteArray).size := by rw [zz, zl]; omega
      have w2 : ¬ (9223372036854775807 : Int) < ((tb j).size : Int) + (⟨#[125, 10]⟩ : ByteArray).size := by rw [zn]; omega
      have w3 : ¬ (9223372036854775807 : Int) < ((eW k i).size : Int) + (((tb j).size : Int) + (⟨#[125, 10]⟩ : ByteArray).size) := by rw [zn]; omega
      have o1 : (1 : Int) ≤ (j : Int) + 1 + 1 := by omega
      have tn : ((j : Int) + 1 + 1).toNat = j + 1 + 1 := by omega
      cases p with
      | true =>
        simp [hlt, g1, g6, g7, g8, g10, w0, w1, w1', w2, w3, hw, ht1, tn, hx, o1]
        exact .same (k - (i + 1)) (by omega) ⟨i + 1, rfl, by omega, by simp, by simp [g0], by simp [g1], by simp [eS], by simp [eW, hj2], by simp [hj2], by simp [hw]⟩
      | false =>
        simp [hlt, g1, g6, g7, g8, g10, w0, w1, w1', w2, w3, hw, ht1, tn, hx, o1]
        exact .same (k - (i + 1)) (by omega) ⟨i + 1, rfl, by omega, by simp, by simp [g0], by simp [g1], by simp [eS], by simp [eW, hj2], by simp [hj2], by simp [hw]⟩
    · have : i = k := by omega
      subst this
      simp
      exact ⟨by simp, by simp [g6], by simp [g7]⟩
  clear g0 g1 g6 g7 g8 w1 w2 w3 hs hw2 ht
  rintro ⟨tm, hp⟩ ⟨e0, g6, g7⟩
  simp only at e0 g6 g7
  subst e0
  have hk2 := beq_iff_eq.1 (show (fmtE (eS k p k ++ ⟨#[125]⟩) == some ((eW k k ++ ⟨#[125, 10]⟩).data.toList, -1)) = true from de_all p k (by omega))
  have hs := eS_size k p k
  have hw2 := eW_size k k (by omega)
  have ct := fmt_eval (W0 := W0) (nb := nb) h2 hT (by rw [ByteArray.size_append, zz]; omega) hk2
  have e3 : (⟨(eW k k ++ ⟨#[125, 10]⟩).data.toList.toArray⟩ : ByteArray) = eW k k ++ ⟨#[125, 10]⟩ := rfl
  rw [e3] at ct
  have w1 : ¬ (9223372036854775807 : Int) < ((eS k p k).size : Int) + (⟨#[125]⟩ : ByteArray).size := by rw [zz]; omega
  have w2 : ¬ (9223372036854775807 : Int) < ((eW k k).size : Int) + (⟨#[125, 10]⟩ : ByteArray).size := by rw [zn]; omega
  simp [g6, w1]
  refine CallGoal.same ct ?_
  simp [g7, w2]
  exact .kk
end Fo
end Go.Proofs.Dm
