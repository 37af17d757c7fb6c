/- Part of the proof: contracts of the functions, walked by the D-machine. No condition. -/
import Derived.Test.YtmbnkgagicgcoaaDoorMU5
set_option linter.unusedSimpArgs false
set_option linter.unusedVariables false
set_option maxHeartbeats 4000000
set_option maxRecDepth 100000
namespace Go.Proofs
open Go Go.RowKit
namespace Dm.Ju
open Dm Dm.Sc Go.Proofs.Tryd
attribute [local simp] takes handsOn isTmp Op.operands Call.operands
def allEq {α : Type} (eq : α → α → Bool) : List α → List α → Bool
  | [], [] => true
  | a :: al, b :: bl => eq a b && allEq eq al bl
  | _, _ => false
theorem allEq_len {α : Type} (eq : α → α → Bool) : ∀ (a b : List α), a.length ≠ b.length → allEq eq a b = false
  | [], [], h => absurd rfl h
  | [], _ :: _, _ => rfl
  | _ :: _, [], _ => rfl
  | a :: al, b :: bl, h => by
    simp only [allEq, allEq_len eq al bl (by simpa using h), Bool.and_false]
def eqR (a b : Rem) : Bool := a.text.toList == b.text.toList && a.ahead == b.ahead
theorem equalR_ok {W0 nb a b} (ha : a.length < 100000000) : DCalls ⟨Tryd.prog, W0, nb⟩ 25 [.p (.sl 2 (a.map encR)), .p (.sl 2 (b.map encR))] [] (.p (.bool (allEq eqR a b))) [] := by
  obtain ⟨R, hR⟩ : ∃ R, allEq eqR a b = R := ⟨_, rfl⟩
  rw [hR]
  refine dcalls_end Tryd.func25 rfl (by kernel_rfl) 26 Tryd.ntmps25 #[.tmp 4] rfl (Nat.le_of_ble_eq_true rfl) ?_
  simp
  by_cases hl : a.length = b.length
  · have hne : ((a.length : Int) != b.length) = false := by simp [hl]
    simp only [← hl]
    simp
    refine ⟨fun m st => ∃ i, allEq eqR (a.drop i) (b.drop i) = R ∧ m = a.length - i ∧ i ≤ a.length ∧ st.hp = [] ∧ st.tm 0 = .p (.sl 2 (a.map encR)) ∧ st.tm 1 = .p (.sl 2 (b.map encR)) ∧ st.tm 12 = i64 a.length ∧ st.tm 13 = i64 (i : Nat), a.length, .here ⟨0, hR, by simp, by simp, by simp, by simp, by simp, by simp, by simp⟩, ?_⟩
    rintro m ⟨tm, hp⟩ ⟨i, h, rfl, hi, h0, g0, g1, g12, g13⟩
    simp only at h0 g0 g1 g12 g13
    subst h0
    simp [g12, g13]
    rcases Nat.lt_or_ge i a.length with hlt | hge
    · have hlt2 : i < b.length := by omega
      have hd1 : a.drop i = a[i] :: a.drop (i + 1) := List.drop_eq_getElem_cons hlt
      have hd2 : b.drop i = b[i] :: b.drop (i + 1) := List.drop_eq_getElem_cons hlt2
      rw [hd1, hd2] at h
      simp only [allEq] at h
      have hw := w64_id (n := (i : Int) + 1) (by omega) (by omega)
      simp only [w64] at hw
      have hq : eqR a[i] b[i] = eqR a[i] b[i] := rfl
      simp [hlt, g13]
      refine drawWp.intro [] [7] mixed (by kernel_rfl) (by kernel_rfl) (by kernel_rfl) ?_
      simp [hlt, hlt2, g0, g1, encR]
      refine ⟨by simp [pairsOK, compatDyn, lowOK, allLt, labD, skips, guardD, looksG, guardSlot, looksD, goneD, eatsT, eats, goneL, rdD, wrD, simpleD, anyOwn, disj, ldD, ldOK, mvD, g0, g1], by simp [pairsOK, compatDyn, lowOK, allLt, labD, skips, guardD, looksG, guardSlot, looksD, goneD, eatsT, eats, goneL, rdD, wrD, simpleD, anyOwn, disj, ldD, ldOK, mvD, g0, g1], ?_⟩
      simp
      have he : ((!a[i].text.toList == b[i].text.toList) || (!a[i].ahead == b[i].ahead)) = !(eqR a[i] b[i]) := by simp [eqR, Bool.not_and]
      rw [he]
      cases hq : eqR a[i] b[i] with
      | true =>
        rw [hq, Bool.true_and] at h
        simp [g13, hw]
        exact .same (a.length - (i + 1)) (by omega) ⟨i + 1, h, rfl, by omega, by simp, by simp [g0], by simp [g1], by simp [g12], by simp [hw]⟩
      | false =>
        rw [hq, Bool.false_and] at h
        subst h
        simp
        exact .keep (by simp) (.refl _) (by simp) (by simp) (by simp) (by simp)
    · have : i = a.length := by omega
      subst this
      have hb0 : b.drop a.length = [] := List.drop_eq_nil_of_le (by omega)
      simp [hb0, allEq] at h
      subst h
      simp
      exact .keep (by simp) (.refl _) (by simp) (by simp) (by simp) (by simp)
  · have hne : ((a.length : Int) != b.length) = true := by simp; omega
    rw [allEq_len _ a b hl] at hR
    subst hR
    simp [hne]
    exact .keep (by simp) (.refl _) (by simp) (by simp) (by simp) (by simp)
structure Fil where
  name : ByteArray
  text : ByteArray
def encF (f : Fil) : List PD := [.str f.name, .str f.text]
def eqF (a b : Fil) : Bool := a.name.toList == b.name.toList && a.text.toList == b.text.toList
theorem equalF_ok {W0 nb a b} (ha : a.length < 100000000000) : DCalls ⟨Tryd.prog, W0, nb⟩ 28 [.p (.sl 2 (a.map encF)), .p (.sl 2 (b.map encF))] [] (.p (.bool (allEq eqF a b))) [] := by
  obtain ⟨R, hR⟩ : ∃ R, allEq eqF a b = R := ⟨_, rfl⟩
  rw [hR]
  refine dcalls_end Tryd.func28 rfl (by kernel_rfl) 26 Tryd.ntmps28 #[.tmp 4] rfl (Nat.le_of_ble_eq_true rfl) ?_
  simp
  by_cases hl : a.length = b.length
  · have hne : ((a.length : Int) != b.length) = false := by simp [hl]
    simp only [← hl]
    simp
    refine ⟨fun m st => ∃ i, allEq eqF (a.drop i) (b.drop i) = R ∧ m = a.length - i ∧ i ≤ a.length ∧ st.hp = [] ∧ st.tm 0 = .p (.sl 2 (a.map encF)) ∧ st.tm 1 = .p (.sl 2 (b.map encF)) ∧ st.tm 12 = i64 a.length ∧ st.tm 13 = i64 (i : Nat), a.length, .here ⟨0, hR, by simp, by simp, by simp, by simp, by simp, by simp, by simp⟩, ?_⟩
    rintro m ⟨tm, hp⟩ ⟨i, h, rfl, hi, h0, g0, g1, g12, g13⟩
    simp only at h0 g0 g1 g12 g13
    subst h0
    simp [g12, g13]
    rcases Nat.lt_or_ge i a.length with hlt | hge
    · have hlt2 : i < b.length := by omega
      have hd1 : a.drop i = a[i] :: a.drop (i + 1) := List.drop_eq_getElem_cons hlt
      have hd2 : b.drop i = b[i] :: b.drop (i + 1) := List.drop_eq_getElem_cons hlt2
      rw [hd1, hd2] at h
      simp only [allEq] at h
      have hw := w64_id (n := (i : Int) + 1) (by omega) (by omega)
      simp only [w64] at hw
      have hq : eqF a[i] b[i] = eqF a[i] b[i] := rfl
      simp [hlt, g13]
      refine drawWp.intro [] [7] mixed (by kernel_rfl) (by kernel_rfl) (by kernel_rfl) ?_
      simp [hlt, hlt2, g0, g1, encF]
      refine ⟨by simp [pairsOK, compatDyn, lowOK, allLt, labD, skips, guardD, looksG, guardSlot, looksD, goneD, eatsT, eats, goneL, rdD, wrD, simpleD, anyOwn, disj, ldD, ldOK, mvD, g0, g1], by simp [pairsOK, compatDyn, lowOK, allLt, labD, skips, guardD, looksG, guardSlot, looksD, goneD, eatsT, eats, goneL, rdD, wrD, simpleD, anyOwn, disj, ldD, ldOK, mvD, g0, g1], ?_⟩
      simp
      have he : ((!a[i].name.toList == b[i].name.toList) || (!a[i].text.toList == b[i].text.toList)) = !(eqF a[i] b[i]) := by simp [eqF, Bool.not_and]
      rw [he]
      cases hq : eqF a[i] b[i] with
      | true =>
        rw [hq, Bool.true_and] at h
        simp [g13, hw]
        exact .same (a.length - (i + 1)) (by omega) ⟨i + 1, h, rfl, by omega, by simp, by simp [g0], by simp [g1], by simp [g12], by simp [hw]⟩
      | false =>
        rw [hq, Bool.false_and] at h
        subst h
        simp
        exact .keep (by simp) (.refl _) (by simp) (by simp) (by simp) (by simp)
    · have : i = a.length := by omega
      subst this
      have hb0 : b.drop a.length = [] := List.drop_eq_nil_of_le (by omega)
      simp [hb0, allEq] at h
      subst h
      simp
      exact .keep (by simp) (.refl _) (by simp) (by simp) (by simp) (by simp)
  · have hne : ((a.length : Int) != b.length) = true := by simp; omega
    rw [allEq_len _ a b hl] at hR
    subst hR
    simp [hne]
    exact .keep (by simp) (.refl _) (by simp) (by simp) (by simp) (by simp)
theorem files_ok {W0 nb a b} (ha : a.length < 100000000000) : DCalls ⟨Tryd.prog, W0, nb⟩ 15 [.p (.sl 2 (a.map encF)), .p (.sl 2 (b.map encF))] [] (.p (.bool (allEq eqF a b))) [] := by
  refine dcalls_end Tryd.func15 rfl (by kernel_rfl) 8 Tryd.ntmps15 #[.tmp 4] rfl (Nat.le_of_ble_eq_true rfl) ?_
  simp
  refine CallGoal.same (equalF_ok ha) ?_
  simp
  exact .keep (by simp) (.refl _) (by simp) (by simp) (by simp) (by simp)
end Dm.Ju
end Go.Proofs
