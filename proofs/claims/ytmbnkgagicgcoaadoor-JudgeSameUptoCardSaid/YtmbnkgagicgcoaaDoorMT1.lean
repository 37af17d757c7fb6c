/- Part of the proof: contracts of the functions, walked by the D-machine. No condition. -/
import Derived.Test.YtmbnkgagicgcoaaDoorMS7
set_option linter.unusedSimpArgs false
set_option linter.unusedVariables false
set_option maxHeartbeats 4000000
namespace Go.Proofs.Dm
open Go Go.Proofs Go.Proofs.Tryd
namespace Rs
open Sc
theorem letter_ok {W0 nb c} : DCalls ⟨Tryd.prog, W0, nb⟩ 34 [u8 c] [] (.p (.bool (letter c))) [] := by
  refine dcalls_end Tryd.func34 rfl (by kernel_rfl) 21 Tryd.ntmps34 #[.tmp 2] rfl (Nat.le_of_ble_eq_true rfl) ?_
  simp
  cases h1 : decide (97 ≤ (c.toNat : Int)) <;> cases h2 : decide ((c.toNat : Int) ≤ 122) <;> cases h3 : decide (65 ≤ (c.toNat : Int)) <;> cases h4 : decide ((c.toNat : Int) ≤ 90) <;> cases h5 : (c.toNat : Int) == 95 <;> simp [h1, h2, h3, h4, h5, letter]
  all_goals exact .keep (by simp [h1, h2, h3, h4, h5]) (.refl _) (by simp) (by simp) (by simp) (by simp)
theorem digit_ok {W0 nb c} : DCalls ⟨Tryd.prog, W0, nb⟩ 32 [u8 c] [] (.p (.bool (digit c))) [] := by
  refine dcalls_end Tryd.func32 rfl (by kernel_rfl) 9 Tryd.ntmps32 #[.tmp 2] rfl (Nat.le_of_ble_eq_true rfl) ?_
  simp
  cases h1 : decide (48 ≤ (c.toNat : Int)) <;> simp [h1, digit]
  all_goals exact .keep (by simp [h1]) (.refl _) (by simp) (by simp) (by simp) (by simp)
theorem in_ok {W0 nb xs s} (hl : xs.length < 1000000) : DCalls ⟨Tryd.prog, W0, nb⟩ 48 [.p (.str s), .p (.sl 1 (rowsS xs))] [] (.p (.bool (isIn xs s))) [] := by
  refine dcalls_end Tryd.func48 rfl (by kernel_rfl) 18 Tryd.ntmps48 #[.tmp 4] rfl (Nat.le_of_ble_eq_true rfl) ?_
  simp
  refine ⟨fun m st => ∃ i, isIn (xs.drop i) s = isIn xs s ∧ m = xs.length - i ∧ i ≤ xs.length ∧ st.hp = [] ∧ st.tm 0 = .p (.str s) ∧ st.tm 1 = .p (.sl 1 (rowsS xs)) ∧ st.tm 5 = i64 (i : Nat), xs.length, .here ⟨0, by simp, by simp, by simp, by simp, by simp, by simp, by simp⟩, ?_⟩
  rintro m ⟨tm, hp⟩ ⟨i, h, rfl, hi, h0, h1, h2, h4⟩
  simp only at h0 h1 h2 h4
  subst h0
  have hrl : (rowsS xs).length = xs.length := by simp [rowsS]
  simp [h1, h2, h4, hrl]
  rcases Nat.lt_or_ge i xs.length with hlt | hge
  · have hg : (rowsS xs)[i]? = some [.str xs[i]] := by simp [rowsS, hlt]
    have hd : xs.drop i = xs[i] :: xs.drop (i + 1) := List.drop_eq_getElem_cons hlt
    rw [hd] at h
    simp only [isIn, List.any_cons] at h
    have hw := w64_id (n := (i : Int) + 1) (by omega) (by omega)
    simp only [w64] at hw
    have he : (xs[i].toList == s.toList) = eqB s xs[i] := by simp only [eqB]; exact Bool.beq_comm
    simp [hlt, h1, h2, h4, hg, rowsS, he]
    cases hq : eqB s xs[i] with
    | true =>
      rw [hq, Bool.true_or] at h
      rw [show isIn xs s = true from h.symm]
      simp
      exact .keep (by simp) (.refl _) (by simp) (by simp) (by simp) (by simp)
    | false =>
      rw [hq, Bool.false_or] at h
      simp [h1, h2, h4]
      exact .same (xs.length - (i + 1)) (by omega) ⟨i + 1, h, rfl, by omega, by simp, by simp [h1], by simp [h2, rowsS], by simp [hw]⟩
  · have : i = xs.length := by omega
    subst this
    rw [← h]
    simp [isIn]
    exact .keep (by simp) (.refl _) (by simp) (by simp) (by simp) (by simp)
theorem op_ok {W0 nb s} : DCalls ⟨Tryd.prog, W0, nb⟩ 36 [.p (.str s)] [] (.p (.bool (isIn ops s))) [] := by
  refine dcalls_end Tryd.func36 rfl (by kernel_rfl) 6 Tryd.ntmps36 #[.tmp 2] rfl (Nat.le_of_ble_eq_true rfl) ?_
  simp [takes, handsOn, isTmp, Op.operands, Call.operands]
  refine CallGoal.intro (in_ok (xs := ops) (s := s) (by decide)) (.cons (.refl _) (.cons (.fr _ _ _) .nil)) ?_
  simp
  exact .keep (by simp) (.refl _) (by simp) (by simp) (by simp) (by simp)
theorem key_ok {W0 nb s} : DCalls ⟨Tryd.prog, W0, nb⟩ 35 [.p (.str s)] [] (.p (.bool (isIn keys s))) [] := by
  refine dcalls_end Tryd.func35 rfl (by kernel_rfl) 6 Tryd.ntmps35 #[.tmp 2] rfl (Nat.le_of_ble_eq_true rfl) ?_
  simp [takes, handsOn, isTmp, Op.operands, Call.operands]
  refine CallGoal.intro (in_ok (xs := keys) (s := s) (by decide)) (.cons (.refl _) (.cons (.fr _ _ _) .nil)) ?_
  simp
  exact .keep (by simp) (.refl _) (by simp) (by simp) (by simp) (by simp)
def operand (t : Tok) : Bool := t.kind == 1 || t.kind == 2 || t.kind == 3 || (t.kind == 4 && t.text.toList == [41])
theorem operand_ok {W0 nb t} : DCalls ⟨Tryd.prog, W0, nb⟩ 49 [.agg ((encT t).map .p)] [] (.p (.bool (operand t))) [] := by
  refine dcalls_end Tryd.func49 rfl (by kernel_rfl) 26 Tryd.ntmps49 #[.tmp 2] rfl (Nat.le_of_ble_eq_true rfl) ?_
  simp [encT, takes, handsOn, isTmp, Op.operands, Call.operands]
  cases h1 : t.kind == 1 <;> cases h2 : t.kind == 2 <;> cases h3 : t.kind == 3 <;> cases h4 : t.kind == 4 <;> simp [h1, h2, h3, h4, operand]
  all_goals exact .keep (by simp [h1, h2, h3, h4]) (.refl _) (by simp) (by simp) (by simp) (by simp)
theorem ends_eq (t : Tok) : ends t = (operand t || (t.kind == 4 && t.text.toList == [125]) || (t.kind == 5 && isIn endK t.text)) := by
  have e : isIn endO t.text = (t.text.toList == [41] || t.text.toList == [125]) := by simp [isIn, endO, eqB]
  simp only [ends, operand, e]
  cases t.kind == 1 <;> cases t.kind == 2 <;> cases t.kind == 3 <;> cases t.kind == 4 <;> cases t.kind == 5 <;> cases isIn endK t.text <;> cases t.text.toList == [41] <;> cases t.text.toList == [125] <;> rfl
theorem ends_ok {W0 nb t} : DCalls ⟨Tryd.prog, W0, nb⟩ 37 [.agg ((encT t).map .p)] [] (.p (.bool (ends t))) [] := by
  rw [ends_eq]
  refine dcalls_end Tryd.func37 rfl (by kernel_rfl) 26 Tryd.ntmps37 #[.tmp 2] rfl (Nat.le_of_ble_eq_true rfl) ?_
  simp [encT, takes, handsOn, isTmp, Op.operands, Call.operands]
  refine CallGoal.same (operand_ok (t := t)) ?_
  simp
  cases h1 : operand t <;> cases h4 : t.kind == 4 <;> cases h6 : t.text.toList == [125] <;> cases h5 : t.kind == 5 <;> simp [h1, h4, h5, h6]
  all_goals first
    | exact .keep (by simp [h1, h4, h5, h6]) (.refl _) (by simp) (by simp) (by simp) (by simp)
    | (refine CallGoal.intro (in_ok (xs := endK) (by decide)) (.cons (.refl _) (.cons (.fr _ _ _) .nil)) ?_
       simp [h1, h4, h5, h6]
       exact .keep (by simp [h1, h4, h5, h6]) (.refl _) (by simp) (by simp) (by simp) (by simp))
end Rs
end Go.Proofs.Dm
