/- Part of the proof: contracts of the functions, walked by the D-machine. No condition. -/
import Derived.Test.YtmbnkgagicgcoaaDoorMS5
set_option linter.unusedSimpArgs false
set_option linter.unusedVariables false
set_option maxHeartbeats 4000000
namespace Go.Proofs.Dm
open Go Go.Proofs Go.Proofs.Tryd
namespace Sc
attribute [local simp] xbox takes handsOn isTmp Op.operands Call.operands
theorem op_ok {W0 nb s x} (h1 : x.at_ < s.size) (h3 : s.size < 1099511627776) (hl : x.l.length < 1000000000) : DCalls ⟨Tryd.prog, W0, nb⟩ 59 [.ref 0 0] [xbox s x (-1)] (.tup []) [res s x (opR s x 2)] := by
  obtain ⟨R, hR⟩ : ∃ R, opR s x 2 = R := ⟨_, rfl⟩
  rw [hR]
  refine dcalls_end Tryd.func59 rfl (by kernel_rfl) 61 Tryd.ntmps59 #[] rfl (Nat.le_of_ble_eq_true rfl) ?_
  simp
  refine ⟨fun n st => n ≤ 2 ∧ opR s x n = R ∧ st.hp = [xbox s x (-1)] ∧ st.tm 0 = .ref 0 0 ∧ st.tm 2 = i64 (n : Nat), 2, .here ⟨by omega, hR, by simp, by simp, by simp⟩, ?_⟩
  rintro n ⟨tm, hp⟩ ⟨hn, h, h0, g0, g2⟩
  simp only at h0 g0 g2
  subst h0
  cases n with
  | zero =>
    simp [g0, g2]
    rw [← h]
    simp [opR, res]
    exact .keep (by simp) (.refl _) (by simp) (by simp) (by simp) (by simp)
  | succ n =>
    have hw1 := w64_id (n := (s.size : Int) - x.at_) (by omega) (by omega)
    have hw2 := w64_id (n := (x.at_ : Int) + ((n : Int) + 1)) (by omega) (by omega)
    have hw3 := w64_id (n := (n : Int)) (by omega) (by omega)
    simp only [w64] at hw1 hw2 hw3
    have tn : ((x.at_ : Int) + ((n : Int) + 1)).toNat = x.at_ + (n + 1) := by omega
    simp only [opR] at h
    simp [g0, g2]
    refine drawWp.intro [] [8, 20, 24] mixed (by kernel_rfl) (by kernel_rfl) (by kernel_rfl) ?_
    simp [g0, g2, hw1]
    by_cases q : x.at_ + (n + 1) ≤ s.size
    · have q1 : (n : Int) + 1 ≤ (s.size : Int) - x.at_ := by omega
      have q2 : (x.at_ : Int) + ((n : Int) + 1) ≤ s.size := by omega
      have q3 : (x.at_ : Int) ≤ (x.at_ : Int) + ((n : Int) + 1) := by omega
      simp [q1, q2, q3, hw2, tn, g0, g2]
      refine CallGoal.same (isOp_ok) ?_
      cases hq : isIn ops (s.extract x.at_ (x.at_ + (n + 1))) with
      | true =>
        rw [hq, decide_eq_true q, Bool.and_self, if_pos rfl] at h
        simp [hq]
        refine ⟨by simp [pairsOK, compatDyn, lowOK, allLt, labD, skips, guardD, looksG, guardSlot, looksD, goneD, eatsT, eats, goneL, rdD, wrD, simpleD, anyOwn, disj, ldD, ldOK, mvD, g0, g2, q1], by simp [pairsOK, compatDyn, lowOK, allLt, labD, skips, guardD, looksG, guardSlot, looksD, goneD, eatsT, eats, goneL, rdD, wrD, simpleD, anyOwn, disj, ldD, ldOK, mvD, g0, g2, q1], ?_⟩
        simp [g0, g2]
        refine drawWp.intro [] [4, 8, 12] mixed (by kernel_rfl) (by kernel_rfl) (by kernel_rfl) ?_
        simp [g0, g2, hw2, tn, q2, q3]
        refine CallGoal.same (putA_ok (x := x) (k := 4) (by omega) q h3 hl) ?_
        simp
        refine ⟨by simp [pairsOK, compatDyn, lowOK, allLt, labD, skips, guardD, looksG, guardSlot, looksD, goneD, eatsT, eats, goneL, rdD, wrD, simpleD, anyOwn, disj, ldD, ldOK, mvD], by simp [pairsOK, compatDyn, lowOK, allLt, labD, skips, guardD, looksG, guardSlot, looksD, goneD, eatsT, eats, goneL, rdD, wrD, simpleD, anyOwn, disj, ldD, ldOK, mvD], ?_⟩
        simp [← h, res]
        exact .keep (by simp) (.refl _) (by simp) (by simp) (by simp) (by simp)
      | false =>
        rw [hq, Bool.and_false] at h
        simp only [Bool.false_eq_true, if_false] at h
        simp [hq]
        refine ⟨by simp [pairsOK, compatDyn, lowOK, allLt, labD, skips, guardD, looksG, guardSlot, looksD, goneD, eatsT, eats, goneL, rdD, wrD, simpleD, anyOwn, disj, ldD, ldOK, mvD, g0, g2, q1], by simp [pairsOK, compatDyn, lowOK, allLt, labD, skips, guardD, looksG, guardSlot, looksD, goneD, eatsT, eats, goneL, rdD, wrD, simpleD, anyOwn, disj, ldD, ldOK, mvD, g0, g2, q1], ?_⟩
        simp [g0, g2, hw3]
        exact .same n (by omega) ⟨by omega, h, by simp, by simp [g0], by simp⟩
    · have q1 : ¬ (n : Int) + 1 ≤ (s.size : Int) - x.at_ := by omega
      rw [decide_eq_false q, Bool.false_and] at h
      simp only [Bool.false_eq_true, if_false] at h
      simp [q1, g0, g2]
      refine ⟨by simp [pairsOK, compatDyn, lowOK, allLt, labD, skips, guardD, looksG, guardSlot, looksD, goneD, eatsT, eats, goneL, rdD, wrD, simpleD, anyOwn, disj, ldD, ldOK, mvD, g0, g2, q1], by simp [pairsOK, compatDyn, lowOK, allLt, labD, skips, guardD, looksG, guardSlot, looksD, goneD, eatsT, eats, goneL, rdD, wrD, simpleD, anyOwn, disj, ldD, ldOK, mvD, g0, g2, q1], ?_⟩
      simp [g0, g2, hw3]
      exact .same n (by omega) ⟨by omega, h, by simp, by simp [g0], by simp⟩
end Sc
end Go.Proofs.Dm
