/- Part of the proof: contracts of the functions, walked by the D-machine. No condition. -/
import Derived.Test.YtmbnkgagicgcoaaDoorMU3
set_option linter.unusedSimpArgs false
set_option linter.unusedVariables false
set_option maxHeartbeats 4000000
set_option maxRecDepth 100000
namespace Go.Proofs
open Go Go.RowKit
namespace Dm.Ju
open Dm Dm.Sc Go.Proofs.Tryd
attribute [local simp] takes handsOn isTmp Op.operands Call.operands
theorem deleteN_ok {W0 nb} : DCalls ⟨Tryd.prog, W0, nb⟩ 43 [tk [], .fn 45 []] [] (tk []) [] := by
  refine dcalls_end Tryd.func43 rfl (by kernel_rfl) 42 Tryd.ntmps43 #[.tmp 4] rfl (Nat.le_of_ble_eq_true rfl) ?_
  simp
  refine CallGoal.same indexN_ok ?_
  simp
  exact .keep (by simp) (.refl _) (by simp) (by simp) (by simp) (by simp)
theorem words_ok {W0 nb l} (hl : l.length < 100000000) : DCalls ⟨Tryd.prog, W0, nb⟩ 22 [tk l] [] (tk (wordsL l)) [] := by
  cases l with
  | nil =>
    refine dcalls_end Tryd.func22 rfl (by kernel_rfl) 6 Tryd.ntmps22 #[.tmp 2] rfl (Nat.le_of_ble_eq_true rfl) ?_
    simp
    refine CallGoal.same cloneN_ok ?_
    simp
    refine CallGoal.same deleteN_ok ?_
    simp [wordsL]
    exact .keep (by simp) (.refl _) (by simp) (by simp) (by simp) (by simp)
  | cons t l =>
    have hc := clone_ok (W0 := W0) (nb := nb) (l := t :: l) (by simp) hl
    have hd := delete_ok (W0 := W0) (nb := nb) (l := t :: l) (by simp) hl
    generalize t :: l = L at *
    refine dcalls_end Tryd.func22 rfl (by kernel_rfl) 6 Tryd.ntmps22 #[.tmp 2] rfl (Nat.le_of_ble_eq_true rfl) ?_
    simp
    refine CallGoal.same hc ?_
    simp
    refine CallGoal.same hd ?_
    simp
    exact .keep (by simp) (.refl _) (by simp) (by simp) (by simp) (by simp)
def eqT (a b : Tok) : Bool := a.kind == b.kind && a.text.toList == b.text.toList
theorem eq_ok {W0 nb a b} : DCalls ⟨Tryd.prog, W0, nb⟩ 23 [.agg ((encT a).map .p), .agg ((encT b).map .p)] [] (.p (.bool (eqT a b))) [] := by
  refine dcalls_end Tryd.func23 rfl (by kernel_rfl) 17 Tryd.ntmps23 #[.tmp 4] rfl (Nat.le_of_ble_eq_true rfl) ?_
  simp [encT, eqT]
  cases h : a.kind == b.kind <;> simp [h]
  all_goals exact .keep (by simp [h]) (.refl _) (by simp) (by simp) (by simp) (by simp)
def eqTs : List Tok → List Tok → Bool
  | [], [] => true
  | a :: al, b :: bl => eqT a b && eqTs al bl
  | _, _ => false
theorem eqTs_len : ∀ (a b : List Tok), a.length ≠ b.length → eqTs a b = false
  | [], [], h => absurd rfl h
  | [], _ :: _, _ => rfl
  | _ :: _, [], _ => rfl
  | a :: al, b :: bl, h => by
    simp only [eqTs, eqTs_len al bl (by simpa using h), Bool.and_false]
theorem equal_ok {W0 nb a b} (ha : a.length < 100000000) : DCalls ⟨Tryd.prog, W0, nb⟩ 21 [tk a, tk b, .fn 23 []] [] (.p (.bool (eqTs a b))) [] := by
  obtain ⟨R, hR⟩ : ∃ R, eqTs a b = R := ⟨_, rfl⟩
  rw [hR]
  refine dcalls_end Tryd.func21 rfl (by kernel_rfl) 32 Tryd.ntmps21 #[.tmp 6] rfl (Nat.le_of_ble_eq_true rfl) ?_
  simp [tk]
  by_cases hl : a.length = b.length
  · have hne : ((a.length : Int) != b.length) = false := by simp [hl]
    simp only [← hl]
    simp
    refine ⟨fun m st => ∃ i, eqTs (a.drop i) (b.drop i) = R ∧ m = a.length - i ∧ i ≤ a.length ∧ st.hp = [] ∧ st.tm 1 = .p (.sl 5 (b.map encT)) ∧ st.tm 2 = .fn 23 [] ∧ st.tm 15 = .p (.sl 5 (a.map encT)) ∧ st.tm 16 = i64 a.length ∧ st.tm 17 = i64 (i : Nat), a.length, .here ⟨0, hR, by simp, by simp, by simp, by simp, by simp, by simp, by simp, by simp⟩, ?_⟩
    rintro m ⟨tm, hp⟩ ⟨i, h, rfl, hi, h0, g1, g2, g15, g16, g17⟩
    simp only at h0 g1 g2 g15 g16 g17
    subst h0
    simp [g16, g17]
    rcases Nat.lt_or_ge i a.length with hlt | hge
    · have hlt2 : i < b.length := by omega
      have hd1 : a.drop i = a[i] :: a.drop (i + 1) := List.drop_eq_getElem_cons hlt
      have hd2 : b.drop i = b[i] :: b.drop (i + 1) := List.drop_eq_getElem_cons hlt2
      rw [hd1, hd2] at h
      simp only [eqTs] at h
      have hw := w64_id (n := (i : Int) + 1) (by omega) (by omega)
      simp only [w64] at hw
      simp [hlt, hlt2, g1, g2, g15, g16, g17, encT]
      refine CallGoal.same (eq_ok (a := a[i]) (b := b[i])) ?_
      simp
      cases hq : eqT a[i] b[i] with
      | true =>
        rw [hq, Bool.true_and] at h
        simp [g17, hw]
        exact .drop (a.length - (i + 1)) (by omega) 0 (by simp) (by simp) (by simp) ⟨i + 1, h, rfl, by omega, by simp [dropSt], by simp [dropSt, dropD, g1], by simp [dropSt, dropD, g2], by simp [dropSt, dropD, g15], by simp [dropSt, dropD, g16], by simp [dropSt, dropD, hw]⟩
      | false =>
        rw [hq, Bool.false_and] at h
        subst h
        simp
        exact .keep (by simp) (.refl _) (by simp) (by simp) (by simp) (by simp)
    · have : i = a.length := by omega
      subst this
      have hb0 : b.drop a.length = [] := List.drop_eq_nil_of_le (by omega)
      simp [hb0, eqTs] at h
      subst h
      simp
      exact .keep (by simp) (.refl _) (by simp) (by simp) (by simp) (by simp)
  · have hne : ((a.length : Int) != b.length) = true := by simp; omega
    rw [eqTs_len a b hl] at hR
    subst hR
    simp [hne]
    exact .keep (by simp) (.refl _) (by simp) (by simp) (by simp) (by simp)
end Dm.Ju
end Go.Proofs
