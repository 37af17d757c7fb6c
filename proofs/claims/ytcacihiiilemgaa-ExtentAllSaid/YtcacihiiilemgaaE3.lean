/- Part of the proof: contracts of the functions, walked by the D-machine. No condition. -/
import Derived.Test.YtcacihiiilemgaaE2
set_option linter.unusedSimpArgs false
set_option linter.unusedVariables false
namespace Go.Proofs.Dm
open Go Go.Proofs Go.Proofs.Try
/-- Where b stands first, from k on. -/
def idxI (l : List Bool) (b : Bool) (k : Nat) : Option Nat := ((l.drop k).findIdx? (· == b)).map (· + k)
theorem idxI_hit {l : List Bool} {b : Bool} {k : Nat} (h : l[k]? = some b) : idxI l b k = some k := by
  obtain ⟨hk, e⟩ := List.getElem?_eq_some_iff.1 h
  unfold idxI
  rw [List.drop_eq_getElem_cons hk, List.findIdx?_cons, e]
  simp
theorem idxI_miss {l : List Bool} {b c : Bool} {k : Nat} (h : l[k]? = some c) (hn : (c == b) = false) : idxI l b k = idxI l b (k + 1) := by
  obtain ⟨hk, e⟩ := List.getElem?_eq_some_iff.1 h
  unfold idxI
  rw [List.drop_eq_getElem_cons hk, List.findIdx?_cons, e, hn]
  simp only [Bool.false_eq_true, if_false, Option.map_map]
  congr 1
  funext x
  simp; omega
theorem idxI_end {l : List Bool} {b : Bool} {k : Nat} (h : l.length ≤ k) : idxI l b k = none := by
  unfold idxI
  rw [List.drop_of_length_le h]; rfl
def idxV (l : List Bool) (b : Bool) : Int := match idxI l b 0 with
  | some k => k
  | none => -1
theorem index_ok {W0 nb} {fr : List Bool} {off n : Nat} {b : Bool} (h1 : off + n ≤ fr.length) (h2 : fr.length ≤ 100000) :
    DCalls ⟨Try.prog, W0, nb⟩ 26 [.arr 0 off 1 n, bl b] [fbox fr] (i64 (idxV ((fr.drop off).take n) b)) [fbox fr] := by
  refine dcalls_end Try.func26 rfl (by kernel_rfl) 19 Try.ntmps26 #[.tmp 4] rfl (Nat.le_of_ble_eq_true rfl) ?_
  simp
  have hl : ((fr.drop off).take n).length = n := by simp; omega
  refine ⟨fun m s => ∃ k, m = n - k ∧ k ≤ n ∧ idxI ((fr.drop off).take n) b 0 = idxI ((fr.drop off).take n) b k ∧ s.hp = [fbox fr] ∧ s.tm 0 = .arr 0 off 1 n ∧ s.tm 1 = bl b ∧ s.tm 7 = i64 n ∧ s.tm 8 = i64 k, n, .here ⟨0, rfl, by omega, rfl, by simp, by simp, by simp, by simp, by simp⟩, ?_⟩
  rintro m ⟨tm, hp⟩ ⟨k, rfl, hkn, hidx, q1, q2, q3, q4, q5⟩
  simp only at q1 q2 q3 q4 q5
  subst q1
  by_cases hk : k < n
  · have hk' : ((k : Int) < n) := by omega
    have hlt : off + k < fr.length := by omega
    have hget : fr[off + k]? = some fr[off + k] := List.getElem?_eq_getElem hlt
    have hget2 : ((fr.drop off).take n)[k]? = some fr[off + k] := by
      rw [List.getElem?_take, if_pos hk, List.getElem?_drop]; exact hget
    have ht1 := take1 hget
    have e1 : off + k + 1 ≤ fr.length := by omega
    have e2 : ¬ (fr = []) := by intro e; subst e; simp at hlt
    cases hb : (b == fr[off + k]) with
    | true =>
      have hv : idxV ((fr.drop off).take n) b = k := by
        unfold idxV
        rw [hidx, idxI_hit (by rw [hget2]; simp only [beq_iff_eq] at hb; rw [hb])]
      rw [hv]
      simp [q2, q3, q4, q5, hk, hk', ht1, e1, e2, hb]
      exact .keep (by simp) (.refl _) (by simp) (by simp) (by simp) (by simp)
    | false =>
      have hb2 : (fr[off + k] == b) = false := by
        cases b <;> cases hq : fr[off + k] <;> simp_all
      have hw : IntKind.i64.wrap ((k : Int) + 1) = ((k + 1 : Nat) : Int) := by rw [wI (by omega) (by omega)]; omega
      simp [q2, q3, q4, q5, hk, hk', ht1, e1, e2, hb]
      exact .same (n - (k + 1)) (by omega) ⟨k + 1, rfl, by omega, by rw [hidx, idxI_miss hget2 hb2], by simp, by simp [q2], by simp [q3], by simp [q4], by simp [hw]⟩
  · have hk' : ¬ ((k : Int) < n) := by omega
    have hv : idxV ((fr.drop off).take n) b = -1 := by
      unfold idxV
      rw [hidx, idxI_end (by omega)]
    rw [hv]
    simp [q2, q3, q4, q5, hk']
    exact .keep (by simp) (.refl _) (by simp) (by simp) (by simp) (by simp)
theorem idxV_mem (l : List Bool) (b : Bool) : decide (0 ≤ idxV l b) = l.contains b := by
  unfold idxV idxI
  rw [List.drop_zero]
  cases h : l.findIdx? (· == b) with
  | none =>
    rw [List.findIdx?_eq_none_iff] at h
    have : l.contains b = false := by
      cases hc : l.contains b
      · rfl
      · have hm : b ∈ l := by simpa using hc
        have := h b hm
        simp at this
    rw [this]; rfl
  | some k =>
    obtain ⟨hk, hp, _⟩ := List.findIdx?_eq_some_iff_getElem.1 h
    have hm : b ∈ l := by
      have : l[k] = b := by simpa using hp
      rw [← this]; exact List.getElem_mem hk
    simp [hm]
def hasB (l : List Bool) (b : Bool) : Bool := decide (0 ≤ idxV l b)
theorem hasB_eq (l : List Bool) (b : Bool) : hasB l b = l.contains b := idxV_mem l b
theorem contains_ok {W0 nb} {fr : List Bool} {off n : Nat} {b : Bool} (h1 : off + n ≤ fr.length) (h2 : fr.length ≤ 100000) :
    DCalls ⟨Try.prog, W0, nb⟩ 25 [.arr 0 off 1 n, bl b] [fbox fr] (bl (hasB ((fr.drop off).take n) b)) [fbox fr] := by
  unfold hasB
  refine dcalls_end Try.func25 rfl (by kernel_rfl) 9 Try.ntmps25 #[.tmp 4] rfl (Nat.le_of_ble_eq_true rfl) ?_
  simp
  refine CallGoal.same (index_ok h1 h2) ?_
  simp
  exact .keep (by simp) (.refl _) (by simp) (by simp) (by simp) (by simp)
/-- Are all of a span there, and as is said? -/
def allP (at_ : Int) (fr : List Bool) (a l : Int) (b : Bool) : Bool :=
  if l < 1 then false else if (fr.length : Int) < l then false else if a < at_ then false else if (fr.length : Int) - l < a - at_ then false
  else !hasB ((fr.drop (a - at_).toNat).take l.toNat) (!b)
def room (at_ : Int) (fr : List Bool) : List (List DV) := [[i64 at_, .arr 1 0 1 fr.length], fbox fr]
theorem all_ok {W0 nb} {at_ a l : Int} {fr : List Bool} {b : Bool} (h1 : 0 ≤ at_) (h2 : at_ ≤ 100000) (h3 : fr.length ≤ 100000) (h4 : a ≤ 9223372036854775807) :
    DCalls ⟨Try.prog, W0, nb⟩ 22 [.ref 0 0, .agg [i64 a, i64 l], bl b] (room at_ fr) (bl (allP at_ fr a l b)) (room at_ fr) := by
  refine dcalls_end Try.func22 rfl (by kernel_rfl) 73 Try.ntmps22 #[.tmp 6] rfl (Nat.le_of_ble_eq_true rfl) ?_
  unfold allP room
  by_cases c1 : l < 1
  · rw [if_pos c1]
    simp
    refine drawWp.intro [] [13, 23, 32, 37, 40] mixed (by kernel_rfl) (by kernel_rfl) (by kernel_rfl) ?_
    simp [c1]
    refine ⟨by simp [pairsOK, compatDyn, lowOK, allLt, labD, skips, guardD, looksG, guardSlot, looksD, goneD, eatsT, eats, goneL, rdD, wrD, simpleD, anyOwn, disj, c1], by simp [pairsOK, compatDyn, lowOK, allLt, labD, skips, guardD, looksG, guardSlot, looksD, goneD, eatsT, eats, goneL, rdD, wrD, simpleD, anyOwn, disj, c1], ?_⟩
    simp [c1]
    exact .keep (by simp) (.refl _) (by simp) (by simp) (by simp) (by simp)
  · rw [if_neg c1]
    by_cases c2 : (fr.length : Int) < l
    · rw [if_pos c2]
      simp
      refine drawWp.intro [] [13, 23, 32, 37, 40] mixed (by kernel_rfl) (by kernel_rfl) (by kernel_rfl) ?_
      simp [c1, c2]
      refine ⟨by simp [pairsOK, compatDyn, lowOK, allLt, labD, skips, guardD, looksG, guardSlot, looksD, goneD, eatsT, eats, goneL, rdD, wrD, simpleD, anyOwn, disj, c1, c2], by simp [pairsOK, compatDyn, lowOK, allLt, labD, skips, guardD, looksG, guardSlot, looksD, goneD, eatsT, eats, goneL, rdD, wrD, simpleD, anyOwn, disj, c1, c2], ?_⟩
      simp [c1, c2]
      exact .keep (by simp) (.refl _) (by simp) (by simp) (by simp) (by simp)
    · rw [if_neg c2]
      by_cases c3 : a < at_
      · rw [if_pos c3]
        simp
        refine drawWp.intro [] [13, 23, 32, 37, 40] mixed (by kernel_rfl) (by kernel_rfl) (by kernel_rfl) ?_
        simp [c1, c2, c3]
        refine ⟨by simp [pairsOK, compatDyn, lowOK, allLt, labD, skips, guardD, looksG, guardSlot, looksD, goneD, eatsT, eats, goneL, rdD, wrD, simpleD, anyOwn, disj, c1, c2, c3], by simp [pairsOK, compatDyn, lowOK, allLt, labD, skips, guardD, looksG, guardSlot, looksD, goneD, eatsT, eats, goneL, rdD, wrD, simpleD, anyOwn, disj, c1, c2, c3], ?_⟩
        simp [c1, c2, c3]
        exact .keep (by simp) (.refl _) (by simp) (by simp) (by simp) (by simp)
      · rw [if_neg c3]
        have w1 : IntKind.i64.wrap (a - at_) = a - at_ := wI (by omega) (by omega)
        have w2 : IntKind.i64.wrap ((fr.length : Int) - l) = fr.length - l := wI (by omega) (by omega)
        by_cases c4 : (fr.length : Int) - l < a - at_
        · rw [if_pos c4]
          simp
          refine drawWp.intro [] [13, 23, 32, 37, 40] mixed (by kernel_rfl) (by kernel_rfl) (by kernel_rfl) ?_
          simp [c1, c2, c3, c4, w1, w2]
          refine ⟨by simp [pairsOK, compatDyn, lowOK, allLt, labD, skips, guardD, looksG, guardSlot, looksD, goneD, eatsT, eats, goneL, rdD, wrD, simpleD, anyOwn, disj, c1, c2, c3, c4, w1, w2], by simp [pairsOK, compatDyn, lowOK, allLt, labD, skips, guardD, looksG, guardSlot, looksD, goneD, eatsT, eats, goneL, rdD, wrD, simpleD, anyOwn, disj, c1, c2, c3, c4, w1, w2], ?_⟩
          simp [c1, c2, c3, c4, w1, w2]
          exact .keep (by simp) (.refl _) (by simp) (by simp) (by simp) (by simp)
        · rw [if_neg c4]
          simp
          refine drawWp.intro [] [13, 23, 32, 37, 40] mixed (by kernel_rfl) (by kernel_rfl) (by kernel_rfl) ?_
          simp [c1, c2, c3, c4, w1, w2]
          refine ⟨by simp [pairsOK, compatDyn, lowOK, allLt, labD, skips, guardD, looksG, guardSlot, looksD, goneD, eatsT, eats, goneL, rdD, wrD, simpleD, anyOwn, disj, c1, c2, c3, c4, w1, w2], by simp [pairsOK, compatDyn, lowOK, allLt, labD, skips, guardD, looksG, guardSlot, looksD, goneD, eatsT, eats, goneL, rdD, wrD, simpleD, anyOwn, disj, c1, c2, c3, c4, w1, w2], ?_⟩
          simp [c1, c2, c3, c4, w1, w2]
          refine drawWp.intro [] [5] mixed (by kernel_rfl) (by kernel_rfl) (by kernel_rfl) ?_
          simp [w1, w2]
          refine ⟨by simp [pairsOK, compatDyn, lowOK, allLt, labD, skips, guardD, looksG, guardSlot, looksD, goneD, eatsT, eats, goneL, rdD, wrD, simpleD, anyOwn, disj, w1, w2], by simp [pairsOK, compatDyn, lowOK, allLt, labD, skips, guardD, looksG, guardSlot, looksD, goneD, eatsT, eats, goneL, rdD, wrD, simpleD, anyOwn, disj, w1, w2], ?_⟩
          simp [w1, w2]
          have w3 : IntKind.i64.wrap (a - at_ + l) = a - at_ + l := wI (by omega) (by omega)
          have e1 : 0 ≤ a - at_ := by omega
          have e2 : a - at_ ≤ a - at_ + l := by omega
          have e3 : a - at_ + l ≤ fr.length := by omega
          have e4 : (a - at_ + l).toNat - (a - at_).toNat = l.toNat := by omega
          have e5 : at_ ≤ a := by omega
          have e6 : 0 ≤ l := by omega
          refine drawWp.intro [] [7] mixed (by kernel_rfl) (by kernel_rfl) (by kernel_rfl) ?_
          simp [w1, w2, w3, e1, e2, e3, e4, e5, e6]
          refine CallGoal.same (contains_ok (by omega) h3) ?_
          simp
          refine ⟨by simp [pairsOK, compatDyn, lowOK, allLt, labD, skips, guardD, looksG, guardSlot, looksD, goneD, eatsT, eats, goneL, rdD, wrD, simpleD, anyOwn, disj, w1, w2, w3, e1, e2, e3, e4, e5, e6], by simp [pairsOK, compatDyn, lowOK, allLt, labD, skips, guardD, looksG, guardSlot, looksD, goneD, eatsT, eats, goneL, rdD, wrD, simpleD, anyOwn, disj, w1, w2, w3, e1, e2, e3, e4, e5, e6], ?_⟩
          simp
          exact .keep (by simp) (.refl _) (by simp) (by simp) (by simp) (by simp)
