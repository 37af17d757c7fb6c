/- Part of the proof: contracts of the functions, walked by the D-machine. No condition. -/
import Derived.Test.YtinhgekebidigaaGreatDoorQc
import Derived.Test.YtinhgekebidigaaGreatDoorSa
set_option linter.unusedSimpArgs false
set_option linter.unusedVariables false
set_option maxHeartbeats 8000000
set_option maxRecDepth 100000
namespace Go.Proofs.Dm
open Go Go.Proofs Go.Proofs.Tryz Go.Proofs.Dm.Sc
namespace Pq
open Gr
attribute [local simp] encT encN encNs takes handsOn isTmp Op.operands Call.operands
def deJ (n : Int) (st : St) : Prop := ∃ A B D X : ByteArray, st.hp = [] ∧ st.tm 0 = i64 n ∧ st.tm 6 = .p (.str A) ∧ st.tm 7 = .p (.str B) ∧ st.tm 8 = .p (.str D) ∧ st.tm 9 = .p (.str X) ∧ st.tm 10 = i64 0 ∧ A.size ≤ 20 ∧ B.size ≤ 20 ∧ D.size ≤ 20 ∧ X.size ≤ 50
def deK (m : Nat) (B D : ByteArray) (st : St) : Prop := ∃ Y : ByteArray, Y.size ≤ 1000 ∧ st.hp = [] ∧ st.tm 0 = i64 (m : Nat) ∧ st.tm 7 = .p (.str B) ∧ st.tm 8 = .p (.str D) ∧ st.tm 9 = .p (.str Y)
def deI (m : Nat) (A B D : ByteArray) (k : Nat) (st : St) : Prop := ∃ (i : Nat) (Y : ByteArray), i ≤ m ∧ k = m - i ∧ Y.size ≤ 50 + 20 * i ∧ st.hp = [] ∧ st.tm 0 = i64 (m : Nat) ∧ st.tm 6 = .p (.str A) ∧ st.tm 7 = .p (.str B) ∧ st.tm 8 = .p (.str D) ∧ st.tm 9 = .p (.str Y) ∧ st.tm 10 = i64 (i : Nat)
def deL (st : St) : Prop := ∃ Z : ByteArray, Z.size ≤ 3000 ∧ st.hp = [] ∧ st.tm 9 = .p (.str Z)
def deI2 (m : Nat) (B : ByteArray) (k : Nat) (st : St) : Prop := ∃ (i : Nat) (Z : ByteArray), i ≤ m ∧ k = m - i ∧ Z.size ≤ 1050 + 20 * i ∧ st.hp = [] ∧ st.tm 0 = i64 (m : Nat) ∧ st.tm 7 = .p (.str B) ∧ st.tm 9 = .p (.str Z) ∧ st.tm 11 = i64 (i : Nat)
theorem deep_ok {W0 nb} {n kind : Int} (h2 : 2 ≤ nb) (hT : Lib.Utf8Tabs 0 1 W0) : DCalls ⟨Tryz.prog, W0, nb⟩ 7 [i64 n, i64 kind] [] (.p (.bool true)) [] := by
  refine dcalls_end Tryz.func7 rfl (by kernel_rfl) 57 Tryz.ntmps7 #[.tmp 4] rfl (Nat.le_of_ble_eq_true rfl) ?_
  simp
  refine CallGoal.same (begun_ok h2 hT) ?_
  simp
  rcases Int.lt_or_le n 0 with hn | hn
  · simp [hn]
    exact .keep (by simp) (.refl _) (by simp) (by simp) (by simp) (by simp)
  have hn' : ¬ n < 0 := by omega
  rcases Int.lt_or_le 45 n with hm | hm
  · simp [hn', hm]
    exact .keep (by simp) (.refl _) (by simp) (by simp) (by simp) (by simp)
  have hm' : ¬ 45 < n := by omega
  simp [hn', hm']
  apply join (J := deJ n)
  case main =>
    intro key
    refine ifGoal_of (fun q => ?_) (fun q => ?_)
    · simp
      exact key _ ⟨_, _, _, _, by simp, by simp, by simp; rfl, by simp; rfl, by simp; rfl, by simp; rfl, by simp, by decide, by decide, by decide, by decide⟩
    · simp
      refine ifGoal_of (fun q => ?_) (fun q => ?_)
      · simp
        exact key _ ⟨_, _, _, _, by simp, by simp, by simp; rfl, by simp; rfl, by simp; rfl, by simp; rfl, by simp, by decide, by decide, by decide, by decide⟩
      · simp
        refine ifGoal_of (fun q => ?_) (fun q => ?_)
        · simp
          exact key _ ⟨_, _, _, _, by simp, by simp, by simp; rfl, by simp; rfl, by simp; rfl, by simp; rfl, by simp, by decide, by decide, by decide, by decide⟩
        · simp
          refine ifGoal_of (fun q => ?_) (fun q => ?_)
          · simp
            exact key _ ⟨_, _, _, _, by simp, by simp, by simp; rfl, by simp; rfl, by simp; rfl, by simp; rfl, by simp, by decide, by decide, by decide, by decide⟩
          · simp
            refine ifGoal_of (fun q => ?_) (fun q => ?_)
            · simp
              exact key _ ⟨_, _, _, _, by simp, by simp, by simp; rfl, by simp; rfl, by simp; rfl, by simp; rfl, by simp, by decide, by decide, by decide, by decide⟩
            · simp
              exact key _ ⟨_, _, _, _, by simp, by simp, by simp; rfl, by simp; rfl, by simp; rfl, by simp; rfl, by simp, by decide, by decide, by decide, by decide⟩
  case key =>
    rintro ⟨tm, hp⟩ ⟨A, B, D, X, h0, g0, g6, g7, g8, g9, g10, hA, hB, hD, hX⟩
    simp only at h0 g0 g6 g7 g8 g9 g10
    subst h0
    obtain ⟨m, rfl⟩ := Int.eq_ofNat_of_zero_le hn
    have hm2 : m ≤ 45 := by omega
    refine LoopGoal.cut (deK m B D) ?_ ?_
    · refine ⟨deI m A B D, m, .here ⟨0, X, by omega, by omega, by omega, by simp, by simp [g0], by simp [g6], by simp [g7], by simp [g8], by simp [g9], by simp [g10]⟩, ?_⟩
      rintro k ⟨tm, hp⟩ ⟨i, Y, hi, rfl, hY, h0, g0, g6, g7, g8, g9, g10⟩
      simp only at h0 g0 g6 g7 g8 g9 g10
      subst h0
      have hw := w64_id (n := (i : Int) + 1) (by omega) (by omega)
      simp only [w64] at hw
      have z1 : ¬ (9223372036854775807 : Int) < (Y.size : Int) + (A.size : Int) := by omega
      rcases Nat.lt_or_ge i m with hlt | hge
      · simp [g0, g6, g9, g10, hlt, z1, hw]
        refine .same (m - (i + 1)) (by omega) ⟨i + 1, Y ++ A, by omega, rfl, by simp only [ByteArray.size_append]; omega, by simp, by simp [g0], by simp [g6], by simp [g7], by simp [g8], by simp, by simp [hw]⟩
      · have hn2 : ¬ i < m := by omega
        simp [g0, g6, g9, g10, hn2]
        exact ⟨Y, by omega, by simp, by simp [g0], by simp [g7], by simp [g8], by simp [g9]⟩
    rintro ⟨tm, hp⟩ ⟨Y, hY, h0, g0, g7, g8, g9⟩
    simp only at h0 g0 g7 g8 g9
    subst h0
    have z2 : ¬ (9223372036854775807 : Int) < (Y.size : Int) + (D.size : Int) := by omega
    simp [g0, g7, g8, g9, z2]
    refine LoopGoal.cut deL ?_ ?_
    · refine ⟨deI2 m B, m, .here ⟨0, Y ++ D, by omega, by omega, by simp only [ByteArray.size_append]; omega, by simp, by simp [g0], by simp [g7], by simp, by simp⟩, ?_⟩
      rintro k ⟨tm, hp⟩ ⟨i, Z, hi, rfl, hZ, h0, g0, g7, g9, g11⟩
      simp only at h0 g0 g7 g9 g11
      subst h0
      have hw := w64_id (n := (i : Int) + 1) (by omega) (by omega)
      simp only [w64] at hw
      have z1 : ¬ (9223372036854775807 : Int) < (Z.size : Int) + (B.size : Int) := by omega
      rcases Nat.lt_or_ge i m with hlt | hge
      · simp [g0, g7, g9, g11, hlt, z1, hw]
        refine .same (m - (i + 1)) (by omega) ⟨i + 1, Z ++ B, by omega, rfl, by simp only [ByteArray.size_append]; omega, by simp, by simp [g0], by simp [g7], by simp, by simp [hw]⟩
      · have hn2 : ¬ i < m := by omega
        simp [g0, g7, g9, g11, hn2]
        exact ⟨Z, by omega, by simp, by simp [g9]⟩
    rintro ⟨tm, hp⟩ ⟨Z, hZ, h0, g9⟩
    simp only at h0 g9
    subst h0
    have hs3 : (⟨#[32, 125, 10]⟩ : ByteArray).size = 3 := rfl
    have z3 : ¬ (9223372036854775807 : Int) < (Z.size : Int) + (((⟨#[32, 125, 10]⟩ : ByteArray).size : Nat) : Int) := by rw [hs3]; omega
    simp [g9, z3]
    refine CallGoal.same (same_ok h2 hT ?_) ?_
    · simp only [ByteArray.size_append, hs3]; omega
    simp
    exact .keep (by simp) (.refl _) (by simp) (by simp) (by simp) (by simp)
end Pq
end Go.Proofs.Dm
