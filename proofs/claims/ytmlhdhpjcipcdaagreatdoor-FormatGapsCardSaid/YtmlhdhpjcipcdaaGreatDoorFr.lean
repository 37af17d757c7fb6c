/- Part of the proof: contracts of the functions, walked by the D-machine. No condition. -/
import Derived.Test.YtmlhdhpjcipcdaaGreatDoorFh
set_option linter.unusedSimpArgs false
set_option linter.unusedVariables false
set_option maxHeartbeats 16000000
set_option maxRecDepth 100000
namespace Go.Proofs.Dm
open Go Go.Proofs Go.Proofs.Tryz Go.Proofs.Dm.Sc
namespace Fo
attribute [local simp] encT takes handsOn isTmp Op.operands Call.operands
def gp : Nat → ByteArray
  | 0 => ⟨#[10]⟩
  | i + 1 => gp i ++ ⟨#[32, 9, 10]⟩
def gaE (b : Nat) : ByteArray := if 0 < b then ⟨#[10, 10]⟩ else ⟨#[10]⟩
def gaS (a b c : Nat) : ByteArray := (⟨#[112, 97, 99, 107, 97, 103, 101, 32, 112, 10, 102, 117, 110, 99, 32, 102, 40, 41, 32, 123]⟩ : ByteArray) ++ gp a ++ ⟨#[120]⟩ ++ gp b ++ ⟨#[121]⟩ ++ gp c ++ ⟨#[125]⟩
def gaW (b : Nat) : ByteArray := (⟨#[112, 97, 99, 107, 97, 103, 101, 32, 112, 10, 102, 117, 110, 99, 32, 102, 40, 41, 32, 123, 10, 9, 120]⟩ : ByteArray) ++ gaE b ++ ⟨#[9, 121, 10, 125, 10]⟩
def gaOK (a b c : Nat) : Bool := fmtE (gaS a b c) == some ((gaW b).data.toList, -1)
theorem gp_size (n : Nat) : (gp n).size = 3 * n + 1 := by
  induction n with
  | zero => rfl
  | succ n ih =>
    have e1 : (⟨#[32, 9, 10]⟩ : ByteArray).size = 3 := rfl
    simp only [gp, ByteArray.size_append, e1]; omega
def gpI (n : Nat) (m : Nat) (st : St) : Prop := ∃ i : Nat, m = n - i ∧ i ≤ n ∧ st.hp = [] ∧ st.tm 0 = i64 (n : Nat) ∧ st.tm 3 = .p (.str (gp i)) ∧ st.tm 4 = i64 (i : Nat)
def gpJ (n : Nat) (st : St) : Prop := st.hp = [] ∧ st.tm 3 = .p (.str (gp n))
theorem gp_ok {W0 nb} {n : Nat} (h6 : n ≤ 6) : DCalls ⟨Tryz.prog, W0, nb⟩ 35 [i64 n] [] (.p (.str (gp n))) [] := by
  have z1 : (⟨#[32, 9, 10]⟩ : ByteArray).size = 3 := rfl
  refine dcalls_end Tryz.func35 rfl (by kernel_rfl) 13 Tryz.ntmps35 #[.tmp 2] rfl (Nat.le_of_ble_eq_true rfl) ?_
  simp
  refine LoopGoal.cut (gpJ n) ?_ ?_
  · refine ⟨gpI n, n, .here ⟨0, by simp, by simp, by simp, by simp, by simp [gp], by simp⟩, ?_⟩
    rintro m ⟨tm, hp⟩ ⟨i, rfl, hi, h0, g0, g3, g4⟩
    simp only at h0 g0 g3 g4
    subst h0
    simp [g0, g4]
    rcases Nat.lt_or_ge i n with hlt | hge
    · have hs := gp_size i
      have hw := w64_id (n := (i : Int) + 1) (by omega) (by omega)
      simp only [w64] at hw
      have w1 : ¬ (9223372036854775807 : Int) < ((gp i).size : Int) + (⟨#[32, 9, 10]⟩ : ByteArray).size := by rw [z1]; omega
      simp [hlt, g3, g4, w1, hw]
      exact .same (n - (i + 1)) (by omega) ⟨i + 1, rfl, by omega, by simp, by simp [g0], by simp [gp], by simp [hw]⟩
    · have : i = n := by omega
      subst this
      simp
      exact ⟨by simp, by simp [g3]⟩
  rintro ⟨tm, hp⟩ ⟨e0, g3⟩
  simp only at e0 g3
  subst e0
  simp [g3]
  exact .keep (by simp) (.refl _) (by simp) (by simp) (by simp) (by simp)
end Fo
end Go.Proofs.Dm

set_option linter.unusedSimpArgs false
set_option linter.unusedVariables false
set_option maxHeartbeats 16000000
set_option maxRecDepth 100000
namespace Go.Proofs.Dm
open Go Go.Proofs Go.Proofs.Tryz Go.Proofs.Dm.Sc
namespace Fo
attribute [local simp] encT takes handsOn isTmp Op.operands Call.operands
theorem ga_00 : ((List.range 7).all fun c => gaOK 0 0 c) = true := by kernel_rfl
theorem ga_01 : ((List.range 7).all fun c => gaOK 0 1 c) = true := by kernel_rfl
theorem ga_02 : ((List.range 7).all fun c => gaOK 0 2 c) = true := by kernel_rfl
theorem ga_03 : ((List.range 7).all fun c => gaOK 0 3 c) = true := by kernel_rfl
theorem ga_04 : ((List.range 7).all fun c => gaOK 0 4 c) = true := by kernel_rfl
theorem ga_05 : ((List.range 7).all fun c => gaOK 0 5 c) = true := by kernel_rfl
theorem ga_06 : ((List.range 7).all fun c => gaOK 0 6 c) = true := by kernel_rfl
theorem gr_0 : ∀ b, b ≤ 6 → ((List.range 7).all fun c => gaOK 0 b c) = true
  | 0, _ => ga_00
  | 1, _ => ga_01
  | 2, _ => ga_02
  | 3, _ => ga_03
  | 4, _ => ga_04
  | 5, _ => ga_05
  | 6, _ => ga_06
  | n + 7, h => by omega
theorem ga_10 : ((List.range 7).all fun c => gaOK 1 0 c) = true := by kernel_rfl
theorem ga_11 : ((List.range 7).all fun c => gaOK 1 1 c) = true := by kernel_rfl
theorem ga_12 : ((List.range 7).all fun c => gaOK 1 2 c) = true := by kernel_rfl
theorem ga_13 : ((List.range 7).all fun c => gaOK 1 3 c) = true := by kernel_rfl
theorem ga_14 : ((List.range 7).all fun c => gaOK 1 4 c) = true := by kernel_rfl
theorem ga_15 : ((List.range 7).all fun c => gaOK 1 5 c) = true := by kernel_rfl
theorem ga_16 : ((List.range 7).all fun c => gaOK 1 6 c) = true := by kernel_rfl
theorem gr_1 : ∀ b, b ≤ 6 → ((List.range 7).all fun c => gaOK 1 b c) = true
  | 0, _ => ga_10
  | 1, _ => ga_11
  | 2, _ => ga_12
  | 3, _ => ga_13
  | 4, _ => ga_14
  | 5, _ => ga_15
  | 6, _ => ga_16
  | n + 7, h => by omega
end Fo
end Go.Proofs.Dm

set_option linter.unusedSimpArgs false
set_option linter.unusedVariables false
set_option maxHeartbeats 16000000
set_option maxRecDepth 100000
namespace Go.Proofs.Dm
open Go Go.Proofs Go.Proofs.Tryz Go.Proofs.Dm.Sc
namespace Fo
attribute [local simp] encT takes handsOn isTmp Op.operands Call.operands
theorem ga_20 : ((List.range 7).all fun c => gaOK 2 0 c) = true := by kernel_rfl
theorem ga_21 : ((List.range 7).all fun c => gaOK 2 1 c) = true := by kernel_rfl
theorem ga_22 : ((List.range 7).all fun c => gaOK 2 2 c) = true := by kernel_rfl
theorem ga_23 : ((List.range 7).all fun c => gaOK 2 3 c) = true := by kernel_rfl
theorem ga_24 : ((List.range 7).all fun c => gaOK 2 4 c) = true := by kernel_rfl
theorem ga_25 : ((List.range 7).all fun c => gaOK 2 5 c) = true := by kernel_rfl
theorem ga_26 : ((List.range 7).all fun c => gaOK 2 6 c) = true := by kernel_rfl
theorem gr_2 : ∀ b, b ≤ 6 → ((List.range 7).all fun c => gaOK 2 b c) = true
  | 0, _ => ga_20
  | 1, _ => ga_21
  | 2, _ => ga_22
  | 3, _ => ga_23
  | 4, _ => ga_24
  | 5, _ => ga_25
  | 6, _ => ga_26
  | n + 7, h => by omega
theorem ga_30 : ((List.range 7).all fun c => gaOK 3 0 c) = true := by kernel_rfl
theorem ga_31 : ((List.range 7).all fun c => gaOK 3 1 c) = true := by kernel_rfl
theorem ga_32 : ((List.range 7).all fun c => gaOK 3 2 c) = true := by kernel_rfl
theorem ga_33 : ((List.range 7).all fun c => gaOK 3 3 c) = true := by kernel_rfl
theorem ga_34 : ((List.range 7).all fun c => gaOK 3 4 c) = true := by kernel_rfl
theorem ga_35 : ((List.range 7).all fun c => gaOK 3 5 c) = true := by kernel_rfl
theorem ga_36 : ((List.range 7).all fun c => gaOK 3 6 c) = true := by kernel_rfl
theorem gr_3 : ∀ b, b ≤ 6 → ((List.range 7).all fun c => gaOK 3 b c) = true
  | 0, _ => ga_30
  | 1, _ => ga_31
  | 2, _ => ga_32
  | 3, _ => ga_33
  | 4, _ => ga_34
  | 5, _ => ga_35
  | 6, _ => ga_36
  | n + 7, h => by omega
end Fo
end Go.Proofs.Dm

set_option linter.unusedSimpArgs false
set_option linter.unusedVariables false
set_option maxHeartbeats 16000000
set_option maxRecDepth 100000
namespace Go.Proofs.Dm
open Go Go.Proofs Go.Proofs.Tryz Go.Proofs.Dm.Sc
namespace Fo
attribute [local simp] encT takes handsOn isTmp Op.operands Call.operands
theorem ga_40 : ((List.range 7).all fun c => gaOK 4 0 c) = true := by kernel_rfl
theorem ga_41 : ((List.range 7).all fun c => gaOK 4 1 c) = true := by kernel_rfl
theorem ga_42 : ((List.range 7).all fun c => gaOK 4 2 c) = true := by kernel_rfl
theorem ga_43 : ((List.range 7).all fun c => gaOK 4 3 c) = true := by kernel_rfl
theorem ga_44 : ((List.range 7).all fun c => gaOK 4 4 c) = true := by kernel_rfl
theorem ga_45 : ((List.range 7).all fun c => gaOK 4 5 c) = true := by kernel_rfl
theorem ga_46 : ((List.range 7).all fun c => gaOK 4 6 c) = true := by kernel_rfl
theorem gr_4 : ∀ b, b ≤ 6 → ((List.range 7).all fun c => gaOK 4 b c) = true
  | 0, _ => ga_40
  | 1, _ => ga_41
  | 2, _ => ga_42
  | 3, _ => ga_43
  | 4, _ => ga_44
  | 5, _ => ga_45
  | 6, _ => ga_46
  | n + 7, h => by omega
theorem ga_50 : ((List.range 7).all fun c => gaOK 5 0 c) = true := by kernel_rfl
theorem ga_51 : ((List.range 7).all fun c => gaOK 5 1 c) = true := by kernel_rfl
theorem ga_52 : ((List.range 7).all fun c => gaOK 5 2 c) = true := by kernel_rfl
theorem ga_53 : ((List.range 7).all fun c => gaOK 5 3 c) = true := by kernel_rfl
theorem ga_54 : ((List.range 7).all fun c => gaOK 5 4 c) = true := by kernel_rfl
theorem ga_55 : ((List.range 7).all fun c => gaOK 5 5 c) = true := by kernel_rfl
theorem ga_56 : ((List.range 7).all fun c => gaOK 5 6 c) = true := by kernel_rfl
theorem gr_5 : ∀ b, b ≤ 6 → ((List.range 7).all fun c => gaOK 5 b c) = true
  | 0, _ => ga_50
  | 1, _ => ga_51
  | 2, _ => ga_52
  | 3, _ => ga_53
  | 4, _ => ga_54
  | 5, _ => ga_55
  | 6, _ => ga_56
  | n + 7, h => by omega
end Fo
end Go.Proofs.Dm

set_option linter.unusedSimpArgs false
set_option linter.unusedVariables false
set_option maxHeartbeats 16000000
set_option maxRecDepth 100000
namespace Go.Proofs.Dm
open Go Go.Proofs Go.Proofs.Tryz Go.Proofs.Dm.Sc
namespace Fo
attribute [local simp] encT takes handsOn isTmp Op.operands Call.operands
theorem ga_60 : ((List.range 7).all fun c => gaOK 6 0 c) = true := by kernel_rfl
theorem ga_61 : ((List.range 7).all fun c => gaOK 6 1 c) = true := by kernel_rfl
theorem ga_62 : ((List.range 7).all fun c => gaOK 6 2 c) = true := by kernel_rfl
theorem ga_63 : ((List.range 7).all fun c => gaOK 6 3 c) = true := by kernel_rfl
theorem ga_64 : ((List.range 7).all fun c => gaOK 6 4 c) = true := by kernel_rfl
theorem ga_65 : ((List.range 7).all fun c => gaOK 6 5 c) = true := by kernel_rfl
theorem ga_66 : ((List.range 7).all fun c => gaOK 6 6 c) = true := by kernel_rfl
theorem gr_6 : ∀ b, b ≤ 6 → ((List.range 7).all fun c => gaOK 6 b c) = true
  | 0, _ => ga_60
  | 1, _ => ga_61
  | 2, _ => ga_62
  | 3, _ => ga_63
  | 4, _ => ga_64
  | 5, _ => ga_65
  | 6, _ => ga_66
  | n + 7, h => by omega
end Fo
end Go.Proofs.Dm

set_option linter.unusedSimpArgs false
set_option linter.unusedVariables false
set_option maxHeartbeats 16000000
set_option maxRecDepth 100000
namespace Go.Proofs.Dm
open Go Go.Proofs Go.Proofs.Tryz Go.Proofs.Dm.Sc
namespace Fo
attribute [local simp] encT takes handsOn isTmp Op.operands Call.operands
theorem ga_all {a b c : Nat} (ha : a ≤ 6) (hb : b ≤ 6) (hc : c ≤ 6) : gaOK a b c = true := by
  have k : ∀ a, a ≤ 6 → ∀ b, b ≤ 6 → ((List.range 7).all fun c => gaOK a b c) = true
    | 0, _ => gr_0
    | 1, _ => gr_1
    | 2, _ => gr_2
    | 3, _ => gr_3
    | 4, _ => gr_4
    | 5, _ => gr_5
    | 6, _ => gr_6
    | n + 7, h => by omega
  exact List.all_eq_true.1 (k a ha b hb) c (List.mem_range.2 (by omega))
theorem gaps_ok {W0 nb} (h2 : 2 ≤ nb) (hT : Lib.Utf8Tabs 0 1 W0) {a b c : Int} : DCalls ⟨Tryz.prog, W0, nb⟩ 11 [i64 a, i64 b, i64 c] [] (.p (.bool true)) [] := by
  refine dcalls_end Tryz.func11 rfl (by kernel_rfl) 67 Tryz.ntmps11 #[.tmp 6] rfl (Nat.le_of_ble_eq_true rfl) ?_
  simp
  refine CallGoal.same (begun17_ok h2 hT) ?_
  simp
  cases hlta : decide (a < 0) with
  | true =>
    have h' := of_decide_eq_true hlta
    simp [h']
    exact .keep (by simp) (.refl _) (by simp) (by simp) (by simp) (by simp)
  | false =>
  have hlta' := of_decide_eq_false hlta
  simp [hlta']
  cases hgta : decide (6 < a) with
  | true =>
    have h' := of_decide_eq_true hgta
    simp [h']
    exact .keep (by simp) (.refl _) (by simp) (by simp) (by simp) (by simp)
  | false =>
  have hgta' := of_decide_eq_false hgta
  simp [hgta']
  cases hltb : decide (b < 0) with
  | true =>
    have h' := of_decide_eq_true hltb
    simp [h']
    exact .keep (by simp) (.refl _) (by simp) (by simp) (by simp) (by simp)
  | false =>
  have hltb' := of_decide_eq_false hltb
  simp [hltb']
  cases hgtb : decide (6 < b) with
  | true =>
    have h' := of_decide_eq_true hgtb
    simp [h']
    exact .keep (by simp) (.refl _) (by simp) (by simp) (by simp) (by simp)
  | false =>
  have hgtb' := of_decide_eq_false hgtb
  simp [hgtb']
  cases hltc : decide (c < 0) with
  | true =>
    have h' := of_decide_eq_true hltc
    simp [h']
    exact .keep (by simp) (.refl _) (by simp) (by simp) (by simp) (by simp)
  | false =>
  have hltc' := of_decide_eq_false hltc
  simp [hltc']
  cases hgtc : decide (6 < c) with
  | true =>
    have h' := of_decide_eq_true hgtc
    simp [h']
    exact .keep (by simp) (.refl _) (by simp) (by simp) (by simp) (by simp)
  | false =>
  have hgtc' := of_decide_eq_false hgtc
  simp [hgtc']
  obtain ⟨a, rfl⟩ : ∃ k : Nat, a = (k : Int) := ⟨a.toNat, by omega⟩
  obtain ⟨b, rfl⟩ : ∃ k : Nat, b = (k : Int) := ⟨b.toNat, by omega⟩
  obtain ⟨c, rfl⟩ : ∃ k : Nat, c = (k : Int) := ⟨c.toNat, by omega⟩
  have hk2 := beq_iff_eq.1 (show (fmtE (gaS a b c) == some ((gaW b).data.toList, -1)) = true from ga_all (by omega) (by omega) (by omega))
  have sa := gp_size a
  have sb := gp_size b
  have sc := gp_size c
  have z0 : (⟨#[112, 97, 99, 107, 97, 103, 101, 32, 112, 10, 102, 117, 110, 99, 32, 102, 40, 41, 32, 123]⟩ : ByteArray).size = 20 := rfl
  have z1 : (⟨#[120]⟩ : ByteArray).size = 1 := rfl
  have z2 : (⟨#[121]⟩ : ByteArray).size = 1 := rfl
  have z3 : (⟨#[125]⟩ : ByteArray).size = 1 := rfl
  have z4 : (⟨#[112, 97, 99, 107, 97, 103, 101, 32, 112, 10, 102, 117, 110, 99, 32, 102, 40, 41, 32, 123, 10, 9, 120]⟩ : ByteArray).size = 23 := rfl
  have z5 : (⟨#[9, 121, 10, 125, 10]⟩ : ByteArray).size = 5 := rfl
  have hz : (gaS a b c).size < 100000 := by simp only [gaS, ByteArray.size_append, z0, z1, z2, z3]; omega
  have ct := fmt_eval (W0 := W0) (nb := nb) h2 hT hz hk2
  have e3 : (⟨(gaW b).data.toList.toArray⟩ : ByteArray) = gaW b := rfl
  rw [e3] at ct
  have ca := gp_ok (W0 := W0) (nb := nb) (n := a) (by omega)
  have cb := gp_ok (W0 := W0) (nb := nb) (n := b) (by omega)
  have cc := gp_ok (W0 := W0) (nb := nb) (n := c) (by omega)
  simp only [gaS, gaW] at ct
  have hge : (gaE b).size ≤ 2 := by unfold gaE; split <;> exact Nat.le_of_ble_eq_true rfl
  have q0 : ¬ (9223372036854775807 : Int) < ((⟨#[112, 97, 99, 107, 97, 103, 101, 32, 112, 10, 102, 117, 110, 99, 32, 102, 40, 41, 32, 123]⟩ : ByteArray).size : Int) + (gp a).size := by rw [z0]; omega
  have q1 : ¬ (9223372036854775807 : Int) < ((⟨#[112, 97, 99, 107, 97, 103, 101, 32, 112, 10, 102, 117, 110, 99, 32, 102, 40, 41, 32, 123]⟩ : ByteArray).size : Int) + (gp a).size + (⟨#[120]⟩ : ByteArray).size := by rw [z0, z1]; omega
  have q2 : ¬ (9223372036854775807 : Int) < ((⟨#[112, 97, 99, 107, 97, 103, 101, 32, 112, 10, 102, 117, 110, 99, 32, 102, 40, 41, 32, 123]⟩ : ByteArray).size : Int) + (gp a).size + (⟨#[120]⟩ : ByteArray).size + (gp b).size := by rw [z0, z1]; omega
  have q3 : ¬ (9223372036854775807 : Int) < ((⟨#[112, 97, 99, 107, 97, 103, 101, 32, 112, 10, 102, 117, 110, 99, 32, 102, 40, 41, 32, 123]⟩ : ByteArray).size : Int) + (gp a).size + (⟨#[120]⟩ : ByteArray).size + (gp b).size + (⟨#[121]⟩ : ByteArray).size := by rw [z0, z1, z2]; omega
  have q4 : ¬ (9223372036854775807 : Int) < ((⟨#[112, 97, 99, 107, 97, 103, 101, 32, 112, 10, 102, 117, 110, 99, 32, 102, 40, 41, 32, 123]⟩ : ByteArray).size : Int) + (gp a).size + (⟨#[120]⟩ : ByteArray).size + (gp b).size + (⟨#[121]⟩ : ByteArray).size + (gp c).size := by rw [z0, z1, z2]; omega
  have q5 : ¬ (9223372036854775807 : Int) < ((⟨#[112, 97, 99, 107, 97, 103, 101, 32, 112, 10, 102, 117, 110, 99, 32, 102, 40, 41, 32, 123]⟩ : ByteArray).size : Int) + (gp a).size + (⟨#[120]⟩ : ByteArray).size + (gp b).size + (⟨#[121]⟩ : ByteArray).size + (gp c).size + (⟨#[125]⟩ : ByteArray).size := by rw [z0, z1, z2, z3]; omega
  by_cases hb0 : 0 < b
  · have hbi : (0 : Int) < (b : Int) := by omega
    have y1 : (⟨#[10, 10]⟩ : ByteArray).size = 2 := rfl
    simp only [gaE, if_pos hb0] at ct
    have u1 : ¬ (9223372036854775807 : Int) < ((⟨#[112, 97, 99, 107, 97, 103, 101, 32, 112, 10, 102, 117, 110, 99, 32, 102, 40, 41, 32, 123, 10, 9, 120]⟩ : ByteArray).size : Int) + (⟨#[10, 10]⟩ : ByteArray).size := by rw [z4, y1]; omega
    have u2 : ¬ (9223372036854775807 : Int) < ((⟨#[112, 97, 99, 107, 97, 103, 101, 32, 112, 10, 102, 117, 110, 99, 32, 102, 40, 41, 32, 123, 10, 9, 120]⟩ : ByteArray).size : Int) + (⟨#[10, 10]⟩ : ByteArray).size + (⟨#[9, 121, 10, 125, 10]⟩ : ByteArray).size := by rw [z4, y1, z5]; omega
    simp [hb0, hbi]
    refine CallGoal.same ca ?_
    simp [q0, q1]
    refine CallGoal.same cb ?_
    simp [q2, q3]
    refine CallGoal.same cc ?_
    simp [q4, q5]
    refine CallGoal.same ct ?_
    simp [u1, u2]
    exact .keep (by simp) (.refl _) (by simp) (by simp) (by simp) (by simp)
  · have hbi : ¬ (0 : Int) < (b : Int) := by omega
    have y1 : (⟨#[10]⟩ : ByteArray).size = 1 := rfl
    simp only [gaE, if_neg hb0] at ct
    have u1 : ¬ (9223372036854775807 : Int) < ((⟨#[112, 97, 99, 107, 97, 103, 101, 32, 112, 10, 102, 117, 110, 99, 32, 102, 40, 41, 32, 123, 10, 9, 120]⟩ : ByteArray).size : Int) + (⟨#[10]⟩ : ByteArray).size := by rw [z4, y1]; omega
    have u2 : ¬ (9223372036854775807 : Int) < ((⟨#[112, 97, 99, 107, 97, 103, 101, 32, 112, 10, 102, 117, 110, 99, 32, 102, 40, 41, 32, 123, 10, 9, 120]⟩ : ByteArray).size : Int) + (⟨#[10]⟩ : ByteArray).size + (⟨#[9, 121, 10, 125, 10]⟩ : ByteArray).size := by rw [z4, y1, z5]; omega
    simp [hb0, hbi]
    refine CallGoal.same ca ?_
    simp [q0, q1]
    refine CallGoal.same cb ?_
    simp [q2, q3]
    refine CallGoal.same cc ?_
    simp [q4, q5]
    refine CallGoal.same ct ?_
    simp [u1, u2]
    exact .keep (by simp) (.refl _) (by simp) (by simp) (by simp) (by simp)
end Fo
end Go.Proofs.Dm
