/- Part of the proof: contracts of the functions, walked by the D-machine. No condition. -/
import Derived.Test.YtbijhjleceeogaaDoorVd
import Derived.Test.YtbijhjleceeogaaDoorVf
import Derived.Test.YtbijhjleceeogaaDoorVg
set_option linter.unusedSimpArgs false
set_option linter.unusedVariables false
set_option maxHeartbeats 8000000
set_option maxRecDepth 100000
namespace Go.Proofs.Dm
open Go Go.Proofs Go.Proofs.Tryd Go.Proofs.Dm.Sc
namespace Sh
open Gr
attribute [local simp] encT encN encNs takes handsOn isTmp Op.operands Call.operands
theorem chk_all : ∀ n : Nat, n ≤ 30 → chk n = true
  | 0, _ => pk0
  | 1, _ => pk1
  | 2, _ => pk2
  | 3, _ => pk3
  | 4, _ => pk4
  | 5, _ => pk5
  | 6, _ => pk6
  | 7, _ => pk7
  | 8, _ => pk8
  | 9, _ => pk9
  | 10, _ => pk10
  | 11, _ => pk11
  | 12, _ => pk12
  | 13, _ => pk13
  | 14, _ => pk14
  | 15, _ => pk15
  | 16, _ => pk16
  | 17, _ => pk17
  | 18, _ => pk18
  | 19, _ => pk19
  | 20, _ => pk20
  | 21, _ => pk21
  | 22, _ => pk22
  | 23, _ => pk23
  | 24, _ => pk24
  | 25, _ => pk25
  | 26, _ => pk26
  | 27, _ => pk27
  | 28, _ => pk28
  | 29, _ => pk29
  | 30, _ => pk30
  | n + 31, h => by omega
def paI (n : Nat) (m : Nat) (st : St) : Prop := ∃ i : Nat, i ≤ n ∧ m = n - i ∧ st.hp = [] ∧ st.tm 0 = i64 (n : Nat) ∧ st.tm 4 = .p (.str (rep 40 i)) ∧ st.tm 5 = .p (.str (rep 41 i)) ∧ st.tm 6 = .p (.str (rep 32 i)) ∧ st.tm 7 = i64 (i : Nat)
theorem rep_zero (c : UInt8) : rep c 0 = ⟨#[]⟩ := rfl
theorem parens_ok {W0 nb} {n : Int} (h2 : 2 ≤ nb) (hT : Lib.Utf8Tabs 0 1 W0) : DCalls ⟨Tryd.prog, W0, nb⟩ 5 [i64 n] [] (.p (.bool true)) [] := by
  refine dcalls_end Tryd.func5 rfl (by kernel_rfl) 62 Tryd.ntmps5 #[.tmp 2] rfl (Nat.le_of_ble_eq_true rfl) ?_
  simp
  refine CallGoal.same (begun_ok h2 hT) ?_
  simp
  rcases Int.lt_or_le n 0 with hn | hn
  · simp [hn]
    exact .keep (by simp) (.refl _) (by simp) (by simp) (by simp) (by simp)
  have hn' : ¬ n < 0 := by omega
  rcases Int.lt_or_le 30 n with hm | hm
  · simp [hn', hm]
    exact .keep (by simp) (.refl _) (by simp) (by simp) (by simp) (by simp)
  have hm' : ¬ 30 < n := by omega
  obtain ⟨k, rfl⟩ := Int.eq_ofNat_of_zero_le hn
  have hk : k ≤ 30 := by omega
  simp [hn', hm']
  refine ⟨paI k, k, .here ⟨0, by omega, by omega, by simp, by simp, by simp [rep_zero], by simp [rep_zero], by simp [rep_zero], by simp⟩, ?_⟩
  rintro m ⟨tm, hp⟩ ⟨i, hi, rfl, h0, g0, g4, g5, g6, g7⟩
  simp only at h0 g0 g4 g5 g6 g7
  subst h0
  have q1 := rep_size 40 i
  have q2 := rep_size 41 i
  have q3 := rep_size 32 i
  rcases Nat.lt_or_ge i k with hlt | hge
  · have hw := w64_id (n := (i : Int) + 1) (by omega) (by omega)
    simp only [w64] at hw
    have r1 := rep_add 40 i
    have r2 := rep_add 41 i
    have r3 := rep_add 32 i
    have u1 : (⟨#[40]⟩ : ByteArray).size = 1 := rfl
    have u2 : (⟨#[41]⟩ : ByteArray).size = 1 := rfl
    have u3 : (⟨#[32]⟩ : ByteArray).size = 1 := rfl
    have z1 : ¬ (9223372036854775807 : Int) < (((rep 40 i).size : Nat) : Int) + (((⟨#[40]⟩ : ByteArray).size : Nat) : Int) := by rw [q1, u1]; omega
    have z2 : ¬ (9223372036854775807 : Int) < (((rep 41 i).size : Nat) : Int) + (((⟨#[41]⟩ : ByteArray).size : Nat) : Int) := by rw [q2, u2]; omega
    have z3 : ¬ (9223372036854775807 : Int) < (((rep 32 i).size : Nat) : Int) + (((⟨#[32]⟩ : ByteArray).size : Nat) : Int) := by rw [q3, u3]; omega
    simp [g0, g4, g5, g6, g7, hlt, z1, z2, z3, hw]
    refine .same (k - (i + 1)) (by omega) ⟨i + 1, by omega, rfl, by simp, by simp [g0], by simp [r1], by simp [r2], by simp [r3], by simp [hw]⟩
  · have hn2 : ¬ i < k := by omega
    have hik : i = k := by omega
    subst hik
    obtain ⟨t1, t2, t3⟩ := T_size hk
    obtain ⟨e1, e2⟩ := chk_same (chk_all i hk)
    have c1 := same_ok (W0 := W0) (nb := nb) h2 hT (a := aT i) (b := bT i) t1 t2
    have c2 := same_ok (W0 := W0) (nb := nb) h2 hT (a := aT i) (b := cT i) t1 t3
    rw [e1] at c1
    rw [e2] at c2
    unfold aT bT at c1
    unfold aT cT at c2
    have f1 : pre1.size = 22 := rfl
    have f2 : pre2.size = 23 := rfl
    have f3 : (⟨#[49]⟩ : ByteArray).size = 1 := rfl
    have f4 : (⟨#[10]⟩ : ByteArray).size = 1 := rfl
    have f5 : (⟨#[41, 10]⟩ : ByteArray).size = 2 := rfl
    generalize hO : rep 40 i = O at *
    generalize hS : rep 41 i = S at *
    generalize hG : rep 32 i = G at *
    have za1 : ¬ (9223372036854775807 : Int) < ((pre1.size : Nat) : Int) + ((O.size : Nat) : Int) := by omega
    have za2 : ¬ (9223372036854775807 : Int) < ((pre1.size : Nat) : Int) + ((O.size : Nat) : Int) + (((⟨#[49]⟩ : ByteArray).size : Nat) : Int) := by omega
    have za3 : ¬ (9223372036854775807 : Int) < ((pre1.size : Nat) : Int) + ((O.size : Nat) : Int) + (((⟨#[49]⟩ : ByteArray).size : Nat) : Int) + ((S.size : Nat) : Int) := by omega
    have za4 : ¬ (9223372036854775807 : Int) < ((pre1.size : Nat) : Int) + ((O.size : Nat) : Int) + (((⟨#[49]⟩ : ByteArray).size : Nat) : Int) + ((S.size : Nat) : Int) + (((⟨#[10]⟩ : ByteArray).size : Nat) : Int) := by omega
    have zb2 : ¬ (9223372036854775807 : Int) < ((pre1.size : Nat) : Int) + ((O.size : Nat) : Int) + ((G.size : Nat) : Int) := by omega
    have zb3 : ¬ (9223372036854775807 : Int) < ((pre1.size : Nat) : Int) + ((O.size : Nat) : Int) + ((G.size : Nat) : Int) + (((⟨#[49]⟩ : ByteArray).size : Nat) : Int) := by omega
    have zb4 : ¬ (9223372036854775807 : Int) < ((pre1.size : Nat) : Int) + ((O.size : Nat) : Int) + ((G.size : Nat) : Int) + (((⟨#[49]⟩ : ByteArray).size : Nat) : Int) + ((G.size : Nat) : Int) := by omega
    have zb5 : ¬ (9223372036854775807 : Int) < ((pre1.size : Nat) : Int) + ((O.size : Nat) : Int) + ((G.size : Nat) : Int) + (((⟨#[49]⟩ : ByteArray).size : Nat) : Int) + ((G.size : Nat) : Int) + ((S.size : Nat) : Int) := by omega
    have zb6 : ¬ (9223372036854775807 : Int) < ((pre1.size : Nat) : Int) + ((O.size : Nat) : Int) + ((G.size : Nat) : Int) + (((⟨#[49]⟩ : ByteArray).size : Nat) : Int) + ((G.size : Nat) : Int) + ((S.size : Nat) : Int) + (((⟨#[10]⟩ : ByteArray).size : Nat) : Int) := by omega
    have zc1 : ¬ (9223372036854775807 : Int) < ((pre2.size : Nat) : Int) + ((O.size : Nat) : Int) := by omega
    have zc2 : ¬ (9223372036854775807 : Int) < ((pre2.size : Nat) : Int) + ((O.size : Nat) : Int) + (((⟨#[49]⟩ : ByteArray).size : Nat) : Int) := by omega
    have zc3 : ¬ (9223372036854775807 : Int) < ((pre2.size : Nat) : Int) + ((O.size : Nat) : Int) + (((⟨#[49]⟩ : ByteArray).size : Nat) : Int) + ((S.size : Nat) : Int) := by omega
    have zc4 : ¬ (9223372036854775807 : Int) < ((pre2.size : Nat) : Int) + ((O.size : Nat) : Int) + (((⟨#[49]⟩ : ByteArray).size : Nat) : Int) + ((S.size : Nat) : Int) + (((⟨#[41, 10]⟩ : ByteArray).size : Nat) : Int) := by omega
    simp only [pre1, pre2] at c1 c2 za1 za2 za3 za4 zb2 zb3 zb4 zb5 zb6 zc1 zc2 zc3 zc4
    simp (maxSteps := 4000000) [g0, g4, g5, g6, g7, hn2, za1, za2, za3, za4, zb2, zb3, zb4, zb5, zb6, zc1, zc2, zc3, zc4]
    refine CallGoal.same c1 ?_
    simp
    refine CallGoal.same c2 ?_
    simp
    exact .keep (by simp) (.refl _) (by simp) (by simp) (by simp) (by simp)
end Sh
end Go.Proofs.Dm
