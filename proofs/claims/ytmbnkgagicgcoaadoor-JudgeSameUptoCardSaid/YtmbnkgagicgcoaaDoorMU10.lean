/- Part of the proof: contracts of the functions, walked by the D-machine. No condition. -/
import Derived.Test.YtmbnkgagicgcoaaDoorMU9
set_option linter.unusedSimpArgs false
set_option linter.unusedVariables false
set_option maxHeartbeats 4000000
set_option maxRecDepth 100000
namespace Go.Proofs
open Go Go.RowKit
namespace Dm.Ju
open Dm Dm.Sc Go.Proofs.Tryd
attribute [local simp] takes handsOn isTmp Op.operands Call.operands
theorem eqFiles_ok {W0 nb} {a b : List Fil} (ha : a.length < 100000000000) : DCalls ⟨Tryd.prog, W0, nb⟩ 16 [.p (.sl 2 (a.map encF)), .p (.sl 2 (b.map encF))] [] (.p (.bool (allEq eqF a b))) [] := by
  obtain ⟨R, hR⟩ : ∃ R, allEq eqF a b = R := ⟨_, rfl⟩
  rw [hR]
  refine dcalls_end Tryd.func16 rfl (by kernel_rfl) 41 Tryd.ntmps16 #[.tmp 4] rfl (Nat.le_of_ble_eq_true rfl) ?_
  simp
  by_cases hl : a.length = b.length
  · simp only [hl]
    simp
    refine ⟨fun m st => ∃ i, allEq eqF (a.drop i) (b.drop i) = R ∧ m = a.length - i ∧ i ≤ a.length ∧ st.hp = [] ∧ st.tm 0 = .p (.sl 2 (a.map encF)) ∧ st.tm 1 = .p (.sl 2 (b.map encF)) ∧ st.tm 5 = i64 (i : Nat), a.length, .here ⟨0, hR, by simp, by simp, by simp, by simp, by simp, by simp⟩, ?_⟩
    rintro m ⟨tm, hp⟩ ⟨i, h, rfl, hi, h0, g0, g1, g5⟩
    simp only at h0 g0 g1 g5
    subst h0
    simp [g0, g5]
    rcases Nat.lt_or_ge i a.length with hlt | hge
    · have hlt2 : i < b.length := by omega
      have hd1 : a.drop i = a[i] :: a.drop (i + 1) := List.drop_eq_getElem_cons hlt
      have hd2 : b.drop i = b[i] :: b.drop (i + 1) := List.drop_eq_getElem_cons hlt2
      rw [hd1, hd2] at h
      simp only [allEq, eqF] at h
      have hw := w64_id (n := (i : Int) + 1) (by omega) (by omega)
      simp only [w64] at hw
      simp [hlt]
      refine drawWp.intro [] [9, 21] mixed (by kernel_rfl) (by kernel_rfl) (by kernel_rfl) ?_
      simp [hlt, hlt2, g0, g1, g5, encF]
      cases q1 : a[i].name.toList == b[i].name.toList with
      | false =>
        simp only [q1, Bool.false_and] at h
        subst h
        simp [hlt, hlt2, g0, g1, g5, encF, q1]
        refine ⟨by simp [pairsOK, compatDyn, lowOK, allLt, labD, skips, guardD, looksG, guardSlot, looksD, goneD, eatsT, eats, goneL, rdD, wrD, simpleD, anyOwn, disj, ldD, ldOK, mvD, q1], by simp [pairsOK, compatDyn, lowOK, allLt, labD, skips, guardD, looksG, guardSlot, looksD, goneD, eatsT, eats, goneL, rdD, wrD, simpleD, anyOwn, disj, ldD, ldOK, mvD, q1], ?_⟩
        simp
        exact .keep (by simp) (.refl _) (by simp) (by simp) (by simp) (by simp)
      | true =>
        simp only [q1, Bool.true_and] at h
        simp [hlt, hlt2, g0, g1, g5, encF, q1]
        refine ⟨by simp [pairsOK, compatDyn, lowOK, allLt, labD, skips, guardD, looksG, guardSlot, looksD, goneD, eatsT, eats, goneL, rdD, wrD, simpleD, anyOwn, disj, ldD, ldOK, mvD, q1], by simp [pairsOK, compatDyn, lowOK, allLt, labD, skips, guardD, looksG, guardSlot, looksD, goneD, eatsT, eats, goneL, rdD, wrD, simpleD, anyOwn, disj, ldD, ldOK, mvD, q1], ?_⟩
        simp
        cases q2 : a[i].text.toList == b[i].text.toList with
        | false =>
          simp only [q2, Bool.false_and] at h
          subst h
          simp
          exact .keep (by simp) (.refl _) (by simp) (by simp) (by simp) (by simp)
        | true =>
          simp only [q2, Bool.true_and] at h
          simp [g5, hw]
          exact .same (a.length - (i + 1)) (by omega) ⟨i + 1, h, rfl, by omega, by simp, by simp [g0], by simp [g1], by simp [hw]⟩
    · have : i = a.length := by omega
      subst this
      have hb0 : b.drop a.length = [] := List.drop_eq_nil_of_le (by omega)
      simp [hb0, allEq] at h
      subst h
      simp [g0, g5]
      exact .keep (by simp) (.refl _) (by simp) (by simp) (by simp) (by simp)
  · have hne : ((a.length : Int) != b.length) = true := by simp; omega
    rw [allEq_len _ a b hl] at hR
    subst hR
    simp [hne]
    exact .keep (by simp) (.refl _) (by simp) (by simp) (by simp) (by simp)
def cutF (f : Fil) : Fil := ⟨cutS f.name 20, cutS f.text 2010⟩
def cutFs (l : List Fil) : List Fil := (l.take 9).map cutF
theorem cutFs_text (l : List Fil) : ∀ f ∈ cutFs l, f.text.size < 10000000 := by
  intro f hf
  simp only [cutFs, List.mem_map] at hf
  obtain ⟨g, _, rfl⟩ := hf
  have := cutS_size g.text 2010
  simp only [cutF]; omega
theorem cutFs_len (l : List Fil) : (cutFs l).length ≤ 9 := by simp [cutFs]; omega
def cutI (l : List Fil) (m : Nat) (st : St) : Prop := ∃ i : Nat, m = 10 - i ∧ i ≤ l.length ∧ i ≤ 9 ∧ st.hp = [] ∧ st.tm 0 = .p (.sl 2 (l.map encF)) ∧ st.tm 3 = .own 39 2 (((l.take i).map cutF).map encF) ∧ st.tm 4 = i64 (i : Nat)
theorem cutFiles_ok {W0 nb} {l : List Fil} : DCalls ⟨Tryd.prog, W0, nb⟩ 13 [.p (.sl 2 (l.map encF))] [] (.p (.sl 2 ((cutFs l).map encF))) [] := by
  refine dcalls_end Tryd.func13 rfl (by kernel_rfl) 32 Tryd.ntmps13 #[.tmp 2] rfl (Nat.le_of_ble_eq_true rfl) ?_
  simp
  refine ⟨cutI l, 10, .here ⟨0, by simp, by simp, by simp, by simp, by simp, by simp, by simp⟩, ?_⟩
  rintro m ⟨tm, hp⟩ ⟨i, rfl, hi, hi9, h0, g0, g3, g4⟩
  simp only at h0 g0 g3 g4
  subst h0
  simp [g0, g4]
  have hend : ¬ (i < l.length ∧ i < 9) → cutFs l = (l.take i).map cutF := by
    intro hn
    simp only [cutFs]
    congr 1
    rcases Nat.lt_or_ge i l.length with h | h
    · have : i = 9 := by omega
      rw [this]
    · rw [List.take_of_length_le (by omega), List.take_of_length_le (by omega)]
  by_cases hlt : i < l.length
  · by_cases h9 : i < 9
    · have hw := w64_id (n := (i : Int) + 1) (by omega) (by omega)
      simp only [w64] at hw
      have hfin : (((l.take (i + 1)).map cutF).map encF) = List.take i (List.map (encF ∘ cutF) l) ++ [[PD.str (cutS l[i].name 20), PD.str (cutS l[i].text 2010)]] := by
        rw [List.take_succ_eq_append_getElem hlt]
        simp only [List.map_append, List.map_take, List.map_map]
        rfl
      have ha1 : (i + 1) * 32 ≤ 140737488355328 := by omega
      have ha2 : i ≤ 9223372036854775806 := by omega
      have hmin : min i l.length = i := by omega
      have h9' : (i : Int) < 9 := by omega
      have c1 := cut_ok (W0 := W0) (nb := nb) (s := l[i].name) (n := 20) (by decide)
      have c2 := cut_ok (W0 := W0) (nb := nb) (s := l[i].text) (n := 2010) (by decide)
      simp at c1 c2
      simp [hlt, h9', g4]
      refine drawWp.intro [(0, 6), (6, 11), (0, 12), (0, 13)] [5, 6, 11, 12] mixed (by kernel_rfl) (by kernel_rfl) (by kernel_rfl) ?_
      simp [hlt, g0, g3, g4, encF]
      refine CallGoal.same c1 ?_
      simp [hlt, g0, g3, g4, encF]
      refine CallGoal.same c2 ?_
      simp [hlt, g0, g3, g4, encF, ha1, ha2, hmin]
      refine ⟨by simp [pairsOK, compatDyn, lowOK, allLt, labD, skips, guardD, looksG, guardSlot, looksD, goneD, eatsT, eats, goneL, rdD, wrD, simpleD, anyOwn, disj, ldD, ldOK, mvD, g3, ha1, ha2, hmin], by simp [pairsOK, compatDyn, lowOK, allLt, labD, skips, guardD, looksG, guardSlot, looksD, goneD, eatsT, eats, goneL, rdD, wrD, simpleD, anyOwn, disj, ldD, ldOK, mvD, g3, ha1, ha2, hmin], ?_⟩
      simp [g4, hw]
      exact .same (10 - (i + 1)) (by omega) ⟨i + 1, rfl, by omega, by omega, by simp, by simp [g0], by rw [hfin]; simp, by simp [hw]⟩
    · have h9' : ¬ (i : Int) < 9 := by omega
      rw [hend (by omega)]
      simp [hlt, h9', g3, g4]
      exact .keep (by simp; rfl) (.fr _ _ _) (by simp) (by simp) (by simp) (by simp)
  · rw [hend (by omega)]
    simp [hlt, g3, g4]
    exact .keep (by simp; rfl) (.fr _ _ _) (by simp) (by simp) (by simp) (by simp)
end Dm.Ju
end Go.Proofs
