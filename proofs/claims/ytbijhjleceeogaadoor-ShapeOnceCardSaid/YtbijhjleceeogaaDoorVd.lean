/- Part of the proof: contracts of the functions, walked by the D-machine. No condition. -/
import Derived.Test.YtbijhjleceeogaaDoorVc
set_option linter.unusedSimpArgs false
set_option linter.unusedVariables false
set_option maxHeartbeats 8000000
set_option maxRecDepth 100000
namespace Go.Proofs.Dm
open Go Go.Proofs Go.Proofs.Tryd Go.Proofs.Dm.Sc
namespace Sh
open Gr
attribute [local simp] encT encN encNs takes handsOn isTmp Op.operands Call.operands
def cutS (s : ByteArray) (n : Nat) : ByteArray := if n < s.size then s.extract 0 n else s
theorem cutS_size (s : ByteArray) (n : Nat) : (cutS s n).size ≤ n := by
  unfold cutS
  split
  · simp; omega
  · omega
theorem cut_ok {W0 nb s} {n : Nat} (hn : n < 1000000) : DCalls ⟨Tryd.prog, W0, nb⟩ 10 [.p (.str s), i64 (n : Nat)] [] (.p (.str (cutS s n))) [] := by
  refine dcalls_end Tryd.func10 rfl (by kernel_rfl) 13 Tryd.ntmps10 #[.tmp 4] rfl (Nat.le_of_ble_eq_true rfl) ?_
  simp
  by_cases h : n < s.size
  · simp [h, cutS, Nat.le_of_lt h]
    exact .keep (by simp) (.refl _) (by simp) (by simp) (by simp) (by simp)
  · simp [h, cutS]
    exact .keep (by simp) (.refl _) (by simp) (by simp) (by simp) (by simp)
theorem sameP_comm (a b : ByteArray) : sameP a b = sameP b a := by
  unfold sameP
  rw [Bool.and_comm (ofP a).2 (ofP b).2, Bool.beq_comm]
theorem once_ok {W0 nb} {s t : ByteArray} (h2 : 2 ≤ nb) (hT : Lib.Utf8Tabs 0 1 W0) : DCalls ⟨Tryd.prog, W0, nb⟩ 4 [.p (.str s), .p (.str t)] [] (.p (.bool true)) [] := by
  have ha := cutS_size s 500
  have hb := cutS_size t 500
  generalize hA : cutS s 500 = a at *
  generalize hB : cutS t 500 = b at *
  have c1 := of_ok (W0 := W0) (nb := nb) h2 hT (s := a) (by omega)
  have c2 := of_ok (W0 := W0) (nb := nb) h2 hT (s := b) (by omega)
  have c3 := pText_ok (W0 := W0) (nb := nb) h2 hT (s := a) (by omega)
  have c4 := textP_ok (W0 := W0) (nb := nb) (s := a) (by omega)
  have c5 := same_ok (W0 := W0) (nb := nb) h2 hT (a := a) (b := b) (by omega) (by omega)
  have c6 := same_ok (W0 := W0) (nb := nb) h2 hT (a := b) (b := a) (by omega) (by omega)
  rw [sameP_comm b a] at c6
  have e0 : sameP a b = ((ofP a).2 && (ofP b).2 && ((ofP a).1.toList == (ofP b).1.toList)) := rfl
  have e1 : ofP a = if decide (0 ≤ (textP a).2.2) then (⟨#[]⟩, false) else (shapeS (textP a).2.1 (textP a).1, true) := rfl
  obtain ⟨R, hR⟩ : ∃ R, textP a = R := ⟨_, rfl⟩
  rw [hR] at c3 c4 e1
  generalize sameP a b = S at *
  generalize ofP b = rb at *
  generalize ofP a = ra at *
  obtain ⟨⟨k, tt, ks⟩, l, f⟩ := R
  obtain ⟨x, o⟩ := ra
  obtain ⟨y, p⟩ := rb
  simp only at c1 c2 c3 c4 e0 e1
  simp at c3 c4
  refine dcalls_end Tryd.func4 rfl (by kernel_rfl) 75 Tryd.ntmps4 #[.tmp 4] rfl (Nat.le_of_ble_eq_true rfl) ?_
  simp
  refine CallGoal.same (begun_ok h2 hT) ?_
  simp
  refine CallGoal.same (cut_ok (n := 500) (by omega)) ?_
  rw [hA]
  simp
  refine CallGoal.same (cut_ok (n := 500) (by omega)) ?_
  rw [hB]
  simp
  refine CallGoal.same c1 ?_
  simp
  refine CallGoal.same c2 ?_
  simp
  refine CallGoal.same c3 ?_
  simp
  cases g : decide (0 ≤ f) with
  | true =>
    have g1 : ¬ f < 0 := by have : 0 ≤ f := by simpa using g
                            omega
    simp only [g, if_true, Prod.mk.injEq] at e1
    obtain ⟨rfl, rfl⟩ := e1
    simp only [Bool.false_and] at e0
    subst e0
    simp [g1]
    refine CallGoal.same c5 ?_
    simp
    refine CallGoal.same c5 ?_
    simp
    refine CallGoal.same c6 ?_
    simp
    exact .keep (by simp) (.refl _) (by simp) (by simp) (by simp) (by simp)
  | false =>
    have g1 : f < 0 := by have : ¬ 0 ≤ f := by simpa using g
                          omega
    simp only [g, Bool.false_eq_true, if_false, Prod.mk.injEq] at e1
    obtain ⟨rfl, rfl⟩ := e1
    cases p <;> simp only [Bool.true_and, Bool.false_and] at e0 <;> subst e0
    all_goals
      simp [g1]
      refine CallGoal.same c4 ?_
      simp
      refine CallGoal.same c5 ?_
      simp
      refine CallGoal.same c5 ?_
      simp
      refine CallGoal.same c6 ?_
      simp
      exact .keep (by simp) (.refl _) (by simp) (by simp) (by simp) (by simp)
end Sh
end Go.Proofs.Dm
