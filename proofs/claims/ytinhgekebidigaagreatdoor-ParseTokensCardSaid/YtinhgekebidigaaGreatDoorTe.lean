/- Part of the proof: contracts of the functions, walked by the D-machine. No condition. -/
import Derived.Test.YtinhgekebidigaaGreatDoorTa
import Derived.Test.YtinhgekebidigaaGreatDoorTd
import Derived.Test.YtinhgekebidigaaGreatDoorSd
set_option linter.unusedSimpArgs false
set_option linter.unusedVariables false
set_option maxHeartbeats 8000000
set_option maxRecDepth 100000
namespace Go.Proofs.Dm
open Go Go.Proofs Go.Proofs.Tryz
namespace Rs
open Sc
attribute [local simp] rbox takes handsOn isTmp Op.operands Call.operands
theorem fault_ok {W0 nb s} (h3 : s.size < 1099511627776) : DCalls ⟨Tryz.prog, W0, nb⟩ 16 [.p (.str s)] [] (i64 (faultF s s.size 0)) [] := by
  rw [← faultR_eq]
  obtain ⟨R, hR⟩ : ∃ R, faultR s s.size 0 = R := ⟨_, rfl⟩
  rw [hR]
  refine dcalls_end Tryz.func16 rfl (by kernel_rfl) 47 Tryz.ntmps16 #[.tmp 2] rfl (Nat.le_of_ble_eq_true rfl) ?_
  simp
  refine ⟨fun m st => ∃ i : Nat, faultR s m i = R ∧ s.size ≤ m + i ∧ i ≤ s.size + 4 ∧ st.hp = [] ∧ st.tm 0 = .p (.str s) ∧ st.tm 3 = i64 (i : Nat), s.size, .here ⟨0, hR, by omega, by omega, by simp, by simp, by simp⟩, ?_⟩
  rintro m ⟨tm, hp⟩ ⟨i, h, hm, hi, h0, g0, g3⟩
  simp only at h0 g0 g3
  subst h0
  rcases Nat.lt_or_ge i s.size with hlt | hge
  · obtain ⟨m, rfl⟩ : ∃ k, m = k + 1 := ⟨m - 1, by omega⟩
    have hz : (s.extract i s.size).size = s.size - i := by simp
    simp only [faultR, if_pos hlt] at h
    have hb : s[i]? = some s[i] := by simp [hlt]
    simp only [badR, hb, Option.any_some] at h
    have hp4 := decR_pos (s.extract i s.size) (by omega)
    simp [g0, g3, hlt, Nat.le_of_lt hlt]
    refine CallGoal.same (decode_ok (by omega) (by omega)) ?_
    generalize decR (s.extract i s.size) = d at *
    obtain ⟨w, ok⟩ := d
    simp only at h hp4
    obtain ⟨w, rfl⟩ : ∃ k : Nat, w = (k : Int) := ⟨w.toNat, by omega⟩
    simp only [Int.toNat_natCast] at h
    have hw := w64_id (n := (i : Int) + w) (by omega) (by omega)
    simp only [w64] at hw
    generalize hgi : s[i] = c at *
    cases ok with
    | false =>
      simp only [Bool.not_false, Bool.true_or, if_true] at h
      subst h
      simp [g0, g3]
      exact .keep (by simp [g3]) (.refl _) (by simp) (by simp [g3]) (by simp [g3]) (by simp [g3])
    | true =>
      simp only [Bool.not_true, Bool.false_or] at h
      cases c1 : decide ((c.toNat : Int) < 32) <;> cases c2 : ((c.toNat : Int) != 9) <;> cases c3 : ((c.toNat : Int) != 10) <;> cases c4 : ((c.toNat : Int) == 127) <;> simp only [c1, c2, c3, c4, Bool.and_self, Bool.and_true, Bool.and_false, Bool.true_and, Bool.false_and, Bool.or_self, Bool.or_true, Bool.or_false, Bool.true_or, Bool.false_or, Bool.false_eq_true, if_true, if_false] at h <;> simp only [decide_eq_true_eq, decide_eq_false_iff_not] at c1 <;> simp [g0, g3, hlt, hgi, c1, c2, c3, c4]
      all_goals first
        | (exact .same m (by omega) ⟨i + w, h, by omega, by omega, by simp, by simp [g0], by simp [hw]⟩)
        | exact .keep (by simp [← h, g3]) (.refl _) (by simp) (by simp) (by simp) (by simp)
        | skip
  · have : faultR s m i = -1 := by
      cases m with
      | zero => rfl
      | succ m => simp only [faultR, if_neg (by omega : ¬ i < s.size)]
    rw [this] at h
    subst h
    simp [g0, g3, show ¬ i < s.size by omega]
    exact .keep (by simp) (.refl _) (by simp) (by simp) (by simp) (by simp)
def scanI (s : ByteArray) (L : SS × Int) (F : Int) (m : Nat) (st : St) : Prop := ∃ x, st.hp = [rbox s x] ∧ st.tm 0 = .p (.str s) ∧ st.tm 5 = .ref 0 0 ∧ st.tm 6 = i64 F ∧ x.at_ ≤ s.size ∧ x.l.length ≤ x.at_ ∧ x.c.length ≤ x.at_ ∧ 0 ≤ x.line ∧ x.line ≤ x.at_ + 1 ∧ loopS s m x = L ∧ s.size < x.at_ + m
/-- The fault that the bytes and the length make. -/
def fault0 (s : ByteArray) : Int := if 2000 < s.size ∧ (faultF s s.size 0 < 0 ∨ 2000 < faultF s s.size 0) then 2000 else faultF s s.size 0
theorem loopS_end {s} : ∀ n x, x.at_ ≤ s.size → s.size < x.at_ + n → ((loopS s n x).2 = -1 ∧ (loopS s n x).1.at_ = s.size) ∨ ((loopS s n x).2 = (loopS s n x).1.at_)
  | 0, x, h, h2 => by omega
  | n + 1, x, h, h2 => by
    simp only [loopS]
    split
    · rename_i hlt
      cases hs : Sc.step s x with
      | none => exact .inr rfl
      | some y =>
        have h1 := step_ok hlt hs
        exact loopS_end n y h1.2.1 (by omega)
    · exact .inl ⟨rfl, by simp only; omega⟩
theorem faultF_ge (s : ByteArray) : ∀ n i, faultF s n i = -1 ∨ 0 ≤ faultF s n i
  | 0, _ => .inl rfl
  | n + 1, i => by
    simp only [faultF]
    split
    · split
      · exact .inr (by omega)
      · exact faultF_ge s n _
    · exact .inl rfl
/-- What the program notes is what the reference notes. -/
theorem scanF_eq (s : ByteArray) (f : Int) (h : f = -1 ∨ 0 ≤ f) : scanF s f = (if 0 ≤ f then (if fault0 s < 0 ∨ f < fault0 s then f else fault0 s) else fault0 s) := by
  have hf := faultF_ge s s.size 0
  simp only [scanF, least, fault0]
  repeat' split
  all_goals omega
attribute [local simp] rbox takes handsOn isTmp Op.operands Call.operands
theorem scan_ok {W0 nb s} (hs : s.size < 10000000) : DCalls ⟨Tryz.prog, W0, nb⟩ 11 [.p (.str s)] [] (.tup [toks (scanP s).1, coms (scanP s).2.1, i64 (scanP s).2.2]) [] := by
  obtain ⟨R, hR⟩ : ∃ R, scanP s = R := ⟨_, rfl⟩
  rw [hR]
  obtain ⟨L, hL⟩ : ∃ L, loopS s (s.size + 1) ⟨0, 1, [], []⟩ = L := ⟨_, rfl⟩
  have hLe := loopS_end (s := s) (s.size + 1) ⟨0, 1, [], []⟩ (Nat.zero_le _) (by simp)
  simp only [scanP, hL] at hR
  have hLb := loopS_ok (s := s) (s.size + 1) ⟨0, 1, [], []⟩ (Nat.zero_le _)
  rw [hL] at hLb hLe
  simp only [List.length_nil] at hLb
  rw [scanF_eq s L.2 (by omega)] at hR
  have hff := faultF_ge s s.size 0
  refine dcalls_end Tryz.func11 rfl (by kernel_rfl) 77 Tryz.ntmps11 #[.tmp 2, .tmp 3, .tmp 4] rfl (Nat.le_of_ble_eq_true rfl) ?_
  simp
  refine CallGoal.same (fault_ok (by omega)) ?_
  have hF : ∃ F, fault0 s = F := ⟨_, rfl⟩
  obtain ⟨F, hF⟩ := hF
  rw [hF] at hR
  simp only [fault0] at hF
  generalize faultF s s.size 0 = f0 at *
  simp
  apply join (J := fun st => st.hp = [rbox s ⟨0, 1, [], []⟩] ∧ st.tm 0 = .p (.str s) ∧ st.tm 5 = .ref 0 0 ∧ st.tm 6 = i64 F)
  case main =>
    intro key
    by_cases a : 2000 < s.size
    · have a' : (2000 : Int) < s.size := by omega
      by_cases b : f0 < 0
      · rw [if_pos ⟨a, .inl b⟩] at hF
        simp [a', b]
        exact key _ ⟨by simp, by simp, by simp, by simp [hF]⟩
      · by_cases c : 2000 < f0
        · rw [if_pos ⟨a, .inr c⟩] at hF
          simp [a', b, c]
          exact key _ ⟨by simp, by simp, by simp, by simp [hF]⟩
        · rw [if_neg (by omega)] at hF
          simp [a', b, c]
          exact key _ ⟨by simp, by simp, by simp, by simp [hF]⟩
    · have a' : ¬ (2000 : Int) < s.size := by omega
      rw [if_neg (by omega)] at hF
      simp [a']
      exact key _ ⟨by simp, by simp, by simp, by simp [hF]⟩
  case key =>
    have hFF : F = -1 ∨ 0 ≤ F := by
      split at hF <;> omega
    rintro ⟨tm, hp⟩ ⟨h0, g0, g5, g6⟩
    simp only at h0 g0 g5 g6
    subst h0
    refine ⟨scanI s L F, s.size + 1, .here ⟨⟨0, 1, [], []⟩, by simp, by simp [g0], by simp [g5], by simp [g6], by simp, by simp, by simp, by simp, by simp, hL, by simp⟩, ?_⟩
    rintro m ⟨tm, hp⟩ ⟨x, h0, g0, g5, g6, b1, b2, b3, b4, b5, hc, hm⟩
    simp only at h0 g0 g5 g6
    subst h0
    obtain ⟨m, rfl⟩ : ∃ k, m = k + 1 := ⟨m - 1, by omega⟩
    by_cases hlt : x.at_ < s.size
    · simp only [loopS, if_pos hlt] at hc
      simp [g0, g5, g6, hlt]
      refine CallGoal.same (one_ok (x := x) hlt (by omega) (by omega) (by omega) (by omega)) ?_
      cases hst : Sc.step s x with
      | some y =>
        rw [hst] at hc
        simp only at hc
        have hy := step_ok hlt hst
        simp [g0, g5, g6]
        exact .same m (by omega) ⟨y, by simp, by simp [g0], by simp [g5], by simp [g6], by omega, by omega, by omega, by omega, by omega, hc, by omega⟩
      | none =>
        rw [hst] at hc
        simp only at hc
        subst hc
        simp only at hR
        rw [if_pos (by omega : (0 : Int) ≤ (x.at_ : Int))] at hR
        simp [g0, g5, g6]
        by_cases c1 : F < 0
        · have e : (if F < 0 ∨ (x.at_ : Int) < F then (x.at_ : Int) else F) = x.at_ := if_pos (.inl c1)
          rw [e, if_pos (by omega)] at hR
          subst hR
          simp [c1, g5, g6]
          exact .keep (by simp [toks, coms]) (.refl _) (by simp) (by simp [toks, coms]) (by simp [toks, coms]) (by simp [toks, coms])
        · by_cases c2 : (x.at_ : Int) < F
          · have e : (if F < 0 ∨ (x.at_ : Int) < F then (x.at_ : Int) else F) = x.at_ := if_pos (.inr c2)
            rw [e, if_pos (by omega)] at hR
            subst hR
            simp [c1, c2, g5, g6]
            exact .keep (by simp [toks, coms]) (.refl _) (by simp) (by simp [toks, coms]) (by simp [toks, coms]) (by simp [toks, coms])
          · have e : (if F < 0 ∨ (x.at_ : Int) < F then (x.at_ : Int) else F) = F := if_neg (by omega)
            rw [e, if_pos (by omega)] at hR
            subst hR
            simp [c1, c2, g5, g6]
            exact .keep (by simp [toks, coms, g6]) (.refl _) (by simp) (by simp [toks, coms, g6]) (by simp [toks, coms, g6]) (by simp [toks, coms, g6])
    · simp only [loopS, if_neg hlt] at hc
      subst hc
      simp only at hR
      rw [if_neg (by omega : ¬ (0 : Int) ≤ -1)] at hR
      have hat : x.at_ = s.size := by omega
      simp [g0, g5, g6, hlt]
      by_cases c1 : 0 ≤ F
      · rw [if_pos c1] at hR
        subst hR
        simp [c1, g5, g6]
        exact .keep (by simp [toks, coms, g6]) (.refl _) (by simp) (by simp [toks, coms, g6]) (by simp [toks, coms, g6]) (by simp [toks, coms, g6])
      · rw [if_neg c1] at hR
        subst hR
        have hsl := semi_len x
        have hz := w64_id (n := (s.size : Int)) (by omega) (by omega)
        simp only [w64] at hz
        have ha1 : ((semi x).l.length + 1) * 48 ≤ 140737488355328 := by omega
        have ha2 : (semi x).l.length ≤ 9223372036854775806 := by omega
        simp [c1, g0, g5, g6]
        refine CallGoal.same (semi_ok (x := x) (by omega)) ?_
        simp [g0, g5]
        refine drawWp.intro [(4, 10)] [4, 10, 13] mixed (by kernel_rfl) (by kernel_rfl) (by kernel_rfl) ?_
        simp [g0, g5, ha1, ha2, hz]
        refine ⟨by simp [pairsOK, pairsOK2, compatAdd, compatCA, compatSt, Dm.stoB, Dm.callB, Dm.adB, compatDyn, lowOK, allLt, labD, skips, guardD, looksG, guardSlot, looksD, goneD, eatsT, eats, goneL, rdD, wrD, simpleD, anyOwn, disj, ldD, ldOK, mvD], by simp [pairsOK, pairsOK2, compatAdd, compatCA, compatSt, Dm.stoB, Dm.callB, Dm.adB, compatDyn, lowOK, allLt, labD, skips, guardD, looksG, guardSlot, looksD, goneD, eatsT, eats, goneL, rdD, wrD, simpleD, anyOwn, disj, ldD, ldOK, mvD], ?_⟩
        simp [g0, g5]
        refine drawWp.intro [(3, 7)] [7] mixed (by kernel_rfl) (by kernel_rfl) (by kernel_rfl) ?_
        simp [g0, g5]
        refine ⟨by simp [pairsOK, pairsOK2, compatAdd, compatCA, compatSt, Dm.stoB, Dm.callB, Dm.adB, compatDyn, lowOK, allLt, labD, skips, guardD, looksG, guardSlot, looksD, goneD, eatsT, eats, goneL, rdD, wrD, simpleD, anyOwn, disj, ldD, ldOK, mvD], by simp [pairsOK, pairsOK2, compatAdd, compatCA, compatSt, Dm.stoB, Dm.callB, Dm.adB, compatDyn, lowOK, allLt, labD, skips, guardD, looksG, guardSlot, looksD, goneD, eatsT, eats, goneL, rdD, wrD, simpleD, anyOwn, disj, ldD, ldOK, mvD], ?_⟩
        exact .keep (by simp [toks, coms, ended, encT, hat]) (.refl _) (by simp) (by simp [toks, coms, ended, encT, hat]) (by simp [toks, coms, ended, encT, hat]) (by simp [toks, coms, ended, encT, hat])
end Rs
end Go.Proofs.Dm
