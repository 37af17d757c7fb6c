/- Part of the proof: contracts of the functions, walked by the D-machine. No condition. -/
import Derived.Test.YtinhgekebidigaaGreatDoorTa
set_option linter.unusedSimpArgs false
set_option linter.unusedVariables false
set_option maxHeartbeats 4000000
namespace Go.Proofs.Dm
open Go Go.Proofs Go.Proofs.Tryz
namespace Rs
open Sc
def rbox (s : ByteArray) (x : SS) : List DV := [.p (.str s), i64 x.at_, i64 x.line, .own 30 5 (x.l.map encT), .own 65 4 (x.c.map encC)]
attribute [local simp] rbox takes handsOn isTmp Op.operands Call.operands
theorem add_ok {W0 nb s x k e} (h1 : x.at_ ≤ e) (h2 : e ≤ s.size) (h3 : s.size < 1099511627776) (hl : x.l.length < 1000000000) : DCalls ⟨Tryz.prog, W0, nb⟩ 23 [.ref 0 0, i64 k, i64 (e : Nat)] [rbox s x] (.tup []) [rbox s (add s k e x)] := by
  have ha1 : (x.l.length + 1) * 48 ≤ 140737488355328 := by omega
  have ha2 : x.l.length ≤ 9223372036854775806 := by omega
  refine dcalls_end Tryz.func23 rfl (by kernel_rfl) 39 Tryz.ntmps23 #[] rfl (Nat.le_of_ble_eq_true rfl) ?_
  simp
  refine drawWp.intro [(4, 9), (4, 13), (4, 19), (9, 19), (13, 19), (4, 23), (9, 23), (13, 23), (19, 23)] [4, 9, 13, 19, 23, 26] mixed (by kernel_rfl) (by kernel_rfl) (by kernel_rfl) ?_
  simp [ha1, ha2, h1, h2]
  refine ⟨by simp [pairsOK, pairsOK2, compatAdd, compatCA, compatSt, Dm.stoB, Dm.callB, Dm.adB, compatDyn, lowOK, allLt, labD, skips, guardD, looksG, guardSlot, looksD, goneD, eatsT, eats, goneL, rdD, wrD, simpleD, anyOwn, disj, ldD, ldOK, mvD], by simp [pairsOK, pairsOK2, compatAdd, compatCA, compatSt, Dm.stoB, Dm.callB, Dm.adB, compatDyn, lowOK, allLt, labD, skips, guardD, looksG, guardSlot, looksD, goneD, eatsT, eats, goneL, rdD, wrD, simpleD, anyOwn, disj, ldD, ldOK, mvD], ?_⟩
  simp [add]
  exact .keep (by simp [encT]) (.refl _) (by simp) (by simp [encT]) (by simp [encT]) (by simp [encT])
theorem semi_ok {W0 nb s x} (hl : x.l.length < 1000000000) : DCalls ⟨Tryz.prog, W0, nb⟩ 18 [.ref 0 0] [rbox s x] (.tup []) [rbox s (semi x)] := by
  refine dcalls_end Tryz.func18 rfl (by kernel_rfl) 41 Tryz.ntmps18 #[] rfl (Nat.le_of_ble_eq_true rfl) ?_
  simp
  refine drawWp.intro [] [14] mixed (by kernel_rfl) (by kernel_rfl) (by kernel_rfl) ?_
  rcases List.eq_nil_or_concat x.l with h | ⟨l', t, h⟩
  · have hs : semi x = x := by simp [semi, h]
    rw [hs]
    simp [h]
    refine ⟨by simp [pairsOK, pairsOK2, compatAdd, compatCA, compatSt, Dm.stoB, Dm.callB, Dm.adB, compatDyn, lowOK, allLt, labD, skips, guardD, looksG, guardSlot, looksD, goneD, eatsT, eats, goneL, rdD, wrD, simpleD, anyOwn, disj, ldD, ldOK, mvD, h], by simp [pairsOK, pairsOK2, compatAdd, compatCA, compatSt, Dm.stoB, Dm.callB, Dm.adB, compatDyn, lowOK, allLt, labD, skips, guardD, looksG, guardSlot, looksD, goneD, eatsT, eats, goneL, rdD, wrD, simpleD, anyOwn, disj, ldD, ldOK, mvD, h], ?_⟩
    simp [h]
    exact .keep (by simp [h]) (.refl _) (by simp) (by simp [h]) (by simp [h]) (by simp [h])
  · rw [List.concat_eq_append] at h
    obtain ⟨a, li, l, c⟩ := x
    simp only at h hl
    subst h
    have hw := w64_id (n := (l'.length : Int)) (by omega) (by simp at hl; omega)
    simp only [w64] at hw
    simp [hw, encT]
    refine CallGoal.same (ends_ok (t := t)) ?_
    simp
    refine ⟨by simp [pairsOK, pairsOK2, compatAdd, compatCA, compatSt, Dm.stoB, Dm.callB, Dm.adB, compatDyn, lowOK, allLt, labD, skips, guardD, looksG, guardSlot, looksD, goneD, eatsT, eats, goneL, rdD, wrD, simpleD, anyOwn, disj, ldD, ldOK, mvD, hw, encT], by simp [pairsOK, pairsOK2, compatAdd, compatCA, compatSt, Dm.stoB, Dm.callB, Dm.adB, compatDyn, lowOK, allLt, labD, skips, guardD, looksG, guardSlot, looksD, goneD, eatsT, eats, goneL, rdD, wrD, simpleD, anyOwn, disj, ldD, ldOK, mvD, hw, encT], ?_⟩
    simp
    cases he : ends t with
    | true =>
      have hs : semi ⟨a, li, l' ++ [t], c⟩ = ⟨a, li, (l' ++ [t]) ++ [⟨6, ⟨#[59]⟩, a, li, true⟩], c⟩ := by simp [semi, he]
      rw [hs]
      have ha1 : (l'.length + 1 + 1) * 48 ≤ 140737488355328 := by simp at hl; omega
      have ha2 : l'.length + 1 ≤ 9223372036854775806 := by simp at hl; omega
      have ha3 : l'.length ≤ 9223372036854775805 := by omega
      simp
      refine drawWp.intro [(4, 8), (4, 12), (8, 12)] [4, 8, 12, 15] mixed (by kernel_rfl) (by kernel_rfl) (by kernel_rfl) ?_
      simp [ha1, ha2, ha3]
      refine ⟨by simp [pairsOK, pairsOK2, compatAdd, compatCA, compatSt, Dm.stoB, Dm.callB, Dm.adB, compatDyn, lowOK, allLt, labD, skips, guardD, looksG, guardSlot, looksD, goneD, eatsT, eats, goneL, rdD, wrD, simpleD, anyOwn, disj, ldD, ldOK, mvD], by simp [pairsOK, pairsOK2, compatAdd, compatCA, compatSt, Dm.stoB, Dm.callB, Dm.adB, compatDyn, lowOK, allLt, labD, skips, guardD, looksG, guardSlot, looksD, goneD, eatsT, eats, goneL, rdD, wrD, simpleD, anyOwn, disj, ldD, ldOK, mvD], ?_⟩
      simp
      exact .keep (by simp [encT]) (.refl _) (by simp) (by simp [encT]) (by simp [encT]) (by simp [encT])
    | false =>
      have hs : semi ⟨a, li, l' ++ [t], c⟩ = ⟨a, li, l' ++ [t], c⟩ := by simp [semi, he]
      rw [hs]
      simp
      exact .keep (by simp [encT]) (.refl _) (by simp) (by simp [encT]) (by simp [encT]) (by simp [encT])
theorem to_ok {W0 nb s x} {i : Nat} {w : Bool} (h1 : i ≤ s.size) (h3 : s.size < 1099511627776) :
    DCalls ⟨Tryz.prog, W0, nb⟩ 26 [.ref 0 0, i64 (i : Nat), .p (.bool w)] [rbox s x] (i64 (stop s (fun c => digit c || (w && letter c)) i)) [rbox s x] := by
  generalize hp : (fun c => digit c || (w && letter c)) = p
  refine dcalls_end Tryz.func26 rfl (by kernel_rfl) 38 Tryz.ntmps26 #[.tmp 6] rfl (Nat.le_of_ble_eq_true rfl) ?_
  simp
  refine ⟨fun m st => ∃ j : Nat, stop s p j = stop s p i ∧ m = s.size - j ∧ j ≤ s.size ∧ st.hp = [rbox s x] ∧ st.tm 0 = .ref 0 0 ∧ st.tm 1 = i64 (j : Nat) ∧ st.tm 2 = .p (.bool w), s.size - i, .here ⟨i, rfl, rfl, h1, by simp, by simp, by simp, by simp⟩, ?_⟩
  rintro m ⟨tm, hp⟩ ⟨i, h, rfl, hi, h0, g0, g1, g2⟩
  simp only at h0 g0 g1 g2
  subst h0
  rw [stop_eq] at h
  simp [g0, g1, g2]
  rcases Nat.lt_or_ge i s.size with hlt | hge
  · have hw := w64_id (n := (i : Int) + 1) (by omega) (by omega)
    simp only [w64] at hw
    have hb : s[i]? = some s[i] := by simp [hlt]
    rw [hb] at h
    simp only at h
    simp [hlt, g0, g1, g2]
    refine CallGoal.same (digit_ok) ?_
    simp
    have hpe : p s[i] = (digit s[i] || (w && letter s[i])) := by rw [← hp]
    rw [hpe] at h
    cases hd : digit s[i] with
    | true =>
      rw [hd, Bool.true_or, if_pos rfl] at h
      simp [g0, g1, g2]
      exact .same (s.size - (i + 1)) (by omega) ⟨i + 1, h, rfl, by omega, by simp, by simp [g0], by simp [hw], by simp [g2]⟩
    | false =>
      rw [hd, Bool.false_or] at h
      cases hww : w with
      | false =>
        simp only [hww, Bool.false_and, Bool.false_eq_true, if_false] at h
        subst hww
        simp [g0, g1, g2, ← h]
        exact .keep (by simp [g1]) (.refl _) (by simp) (by simp [g1]) (by simp [g1]) (by simp [g1])
      | true =>
        simp only [hww, Bool.true_and] at h
        subst hww
        simp [hlt, g0, g1, g2]
        refine CallGoal.same (letter_ok) ?_
        simp
        cases hq : letter s[i] with
        | true =>
          rw [hq, if_pos rfl] at h
          simp [g0, g1, g2]
          exact .same (s.size - (i + 1)) (by omega) ⟨i + 1, h, rfl, by omega, by simp, by simp [g0], by simp [hw], by simp [g2]⟩
        | false =>
          rw [hq] at h
          simp only [Bool.false_eq_true, if_false] at h
          simp [g0, g1, g2, ← h]
          exact .keep (by simp [g1]) (.refl _) (by simp) (by simp [g1]) (by simp [g1]) (by simp [g1])
  · have hb : s[i]? = none := by simp [hge]
    rw [hb] at h
    simp only at h
    simp [show ¬ i < s.size by omega, g0, g1, g2, ← h]
    exact .keep (by simp [g1]) (.refl _) (by simp) (by simp [g1]) (by simp [g1]) (by simp [g1])
end Rs
end Go.Proofs.Dm
