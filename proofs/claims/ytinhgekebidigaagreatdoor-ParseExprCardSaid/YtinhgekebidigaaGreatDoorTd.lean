/- Part of the proof: contracts of the functions, walked by the D-machine. No condition. -/
import Derived.Test.YtinhgekebidigaaGreatDoorTc
set_option linter.unusedSimpArgs false
set_option linter.unusedVariables false
set_option maxHeartbeats 8000000
namespace Go.Proofs.Dm
open Go Go.Proofs Go.Proofs.Tryz
namespace Rs
open Sc
theorem not_slash {s : ByteArray} {i : Nat} {c : UInt8} (hg : s[i]? = some c) (h : c ≠ 47) : slashes s i = false := by
  rw [slashes_get, hg]
  simp [h]
theorem ld {c : UInt8} (h : digit c = true) : letter c = false := by
  simp only [digit, Bool.and_eq_true, decide_eq_true_eq] at h
  simp only [letter, Bool.or_eq_false_iff, Bool.and_eq_false_iff, decide_eq_false_iff_not, beq_eq_false_iff_ne]
  omega
theorem u8_ne {c : UInt8} {k : Nat} (hk : k < 256) : ((c.toNat : Int) == (k : Int)) = decide (c = UInt8.ofNat k) := by
  rw [Bool.eq_iff_iff]
  simp only [beq_iff_eq, decide_eq_true_eq]
  constructor
  · intro h
    apply UInt8.toNat_inj.1
    simp
    omega
  · rintro rfl
    simp
    omega
theorem runTo_end (s : ByteArray) (p : UInt8 → Bool) : ∀ n i, n = s.size - i → ∀ b, s[runTo s p n i]? = some b → p b = false
  | 0, i, h, b, hb => by
    have : s.size ≤ i := by omega
    simp [runTo, this] at hb
  | n + 1, i, h, b, hb => by
    simp only [runTo] at hb
    have hlt : i < s.size := by omega
    have hg : s[i]? = some s[i] := by simp
    rw [hg] at hb
    simp only at hb
    split at hb
    · exact runTo_end s p n (i + 1) (by omega) b hb
    · rename_i hp
      rw [hg] at hb
      cases hb
      simpa using hp
theorem stop_end (s : ByteArray) (p : UInt8 → Bool) (i : Nat) : ∀ b, s[stop s p i]? = some b → p b = false := runTo_end s p _ i rfl
/-- step, in the reference's order. -/
theorem step_ref (s : ByteArray) (x : SS) {c : UInt8} (hg : s[x.at_]? = some c) : Sc.step s x =
    (if (c.toNat : Int) == 32 || (c.toNat : Int) == 9 then some { x with at_ := x.at_ + 1 }
    else if (c.toNat : Int) == 10 then some { semi x with at_ := x.at_ + 1, line := x.line + 1 }
    else if (c.toNat : Int) == 59 then some (add s 6 (x.at_ + 1) x)
    else if (c.toNat : Int) == 47 then (if slashes s x.at_ then some (note s x) else none)
    else if (c.toNat : Int) == 34 then textS s x
    else if digit c then numS s x (stop s digit x.at_)
    else if letter c then nameS s x (stop s wordB x.at_)
    else opR s x 2) := by
  have e10 := u8_ne (c := c) (k := 10) (by decide)
  have e32 := u8_ne (c := c) (k := 32) (by decide)
  have e9 := u8_ne (c := c) (k := 9) (by decide)
  have e59 := u8_ne (c := c) (k := 59) (by decide)
  have e47 := u8_ne (c := c) (k := 47) (by decide)
  have e34 := u8_ne (c := c) (k := 34) (by decide)
  simp only [Sc.step, hg]
  rw [show ((c.toNat : Int) == 10) = _ from e10, show ((c.toNat : Int) == 32) = _ from e32, show ((c.toNat : Int) == 9) = _ from e9, show ((c.toNat : Int) == 59) = _ from e59, show ((c.toNat : Int) == 47) = _ from e47, show ((c.toNat : Int) == 34) = _ from e34]
  by_cases h : c = UInt8.ofNat 10
  · subst h; rfl
  by_cases h1 : c = UInt8.ofNat 32
  · subst h1; rfl
  by_cases h2 : c = UInt8.ofNat 9
  · subst h2; rfl
  by_cases h3 : c = UInt8.ofNat 47
  · subst h3
    have hop := opR_slash (s := s) (x := x) hg 2 (by decide)
    rw [hop]
    cases slashes s x.at_ <;> rfl
  rw [not_slash hg (by simpa using h3)]
  by_cases h4 : c = UInt8.ofNat 59
  · subst h4; rfl
  by_cases h5 : c = UInt8.ofNat 34
  · subst h5; rfl
  simp only [h, h1, h2, h3, h4, h5, decide_false, Bool.or_self, Bool.false_eq_true, if_false]
  cases hd : digit c with
  | true => rw [ld hd]; simp
  | false => simp
attribute [local simp] rbox takes handsOn isTmp Op.operands Call.operands
theorem one_ok {W0 nb s x} (h1 : x.at_ < s.size) (h3 : s.size < 1099511627776) (hli : 0 ≤ x.line ∧ x.line < 1099511627776) (hl : x.l.length < 100000000) (hc : x.c.length < 100000000) : DCalls ⟨Tryz.prog, W0, nb⟩ 17 [.ref 0 0] [rbox s x] (.p (.bool (Sc.step s x).isSome)) [rbox s ((Sc.step s x).getD x)] := by
  have hg : s[x.at_]? = some s[x.at_] := by simp
  have hw1 := w64_id (n := (x.at_ : Int) + 1) (by omega) (by omega)
  have hw2 := w64_id (n := x.line + 1) (by omega) (by omega)
  simp only [w64] at hw1 hw2
  have hge : (0 : Int) ≤ (x.at_ : Int) := by omega
  obtain ⟨R, hR⟩ : ∃ R, Sc.step s x = R := ⟨_, rfl⟩
  rw [hR]
  have hle34 : s[x.at_] = 34 → x.at_ + 1 ≤ s.size := fun _ => h1
  rw [step_ref s x hg] at hR
  have hcc : s[x.at_]? = some s[x.at_] := hg
  refine dcalls_end Tryz.func17 rfl (by kernel_rfl) 244 Tryz.ntmps17 #[.tmp 2] rfl (Nat.le_of_ble_eq_true rfl) ?_
  simp
  refine drawWp.intro [] [7] mixed (by kernel_rfl) (by kernel_rfl) (by kernel_rfl) ?_
  simp [h1, hge]
  refine ⟨by simp [pairsOK, pairsOK2, compatAdd, compatCA, compatSt, Dm.stoB, Dm.callB, Dm.adB, compatDyn, lowOK, allLt, labD, skips, guardD, looksG, guardSlot, looksD, goneD, eatsT, eats, goneL, rdD, wrD, simpleD, anyOwn, disj, ldD, ldOK, mvD], by simp [pairsOK, pairsOK2, compatAdd, compatCA, compatSt, Dm.stoB, Dm.callB, Dm.adB, compatDyn, lowOK, allLt, labD, skips, guardD, looksG, guardSlot, looksD, goneD, eatsT, eats, goneL, rdD, wrD, simpleD, anyOwn, disj, ldD, ldOK, mvD], ?_⟩
  simp
  generalize s[x.at_] = c at *
  cases q1 : ((c.toNat : Int) == 32 || (c.toNat : Int) == 9) with
  | true =>
    rw [q1, if_pos rfl] at hR
    subst hR
    cases q3 : (c.toNat : Int) == 32 <;> simp [q3] at q1 <;> simp [q3, q1, hw1]
    all_goals exact .keep (by simp [q3, q1, hw1]) (.refl _) (by simp) (by simp [q3, q1, hw1]) (by simp) (by simp)
  | false =>
  rw [q1] at hR
  simp only [Bool.false_eq_true, if_false] at hR
  simp only [Bool.or_eq_false_iff] at q1
  simp [q1.1, q1.2]
  refine ifGoal_of (fun q2 => ?_) (fun q2 => ?_)
  · rw [q2, if_pos rfl] at hR
    subst hR
    simp
    refine CallGoal.same (semi_ok (by omega)) ?_
    simp [hw1, hw2]
    exact .keep (by simp) (.refl _) (by simp) (by simp) (by simp) (by simp)
  rw [q2] at hR
  simp only [Bool.false_eq_true, if_false] at hR
  simp
  refine ifGoal_of (fun q3 => ?_) (fun q3 => ?_)
  · rw [q3, if_pos rfl] at hR
    subst hR
    have hp := add_ok (W0 := W0) (nb := nb) (s := s) (x := x) (k := 6) (e := x.at_ + 1) (by omega) (by omega) h3 (by omega)
    simp [hw1]
    refine CallGoal.same hp ?_
    simp
    exact .keep (by simp) (.refl _) (by simp) (by simp) (by simp) (by simp)
  rw [q3] at hR
  simp only [Bool.false_eq_true, if_false] at hR
  simp
  refine ifGoal_of (fun q4 => ?_) (fun q4 => ?_)
  · rw [q4, if_pos rfl] at hR
    have hc47 : c = 47 := by
      have := beq_iff_eq.1 q4
      exact UInt8.toNat_inj.1 (by simp; omega)
    subst hc47
    simp
    refine CallGoal.same (comment_ok (x := x) hg h3 (by omega) (by omega)) ?_
    subst hR
    cases slashes s x.at_ <;> simp
    all_goals exact .keep (by simp) (.refl _) (by simp) (by simp) (by simp) (by simp)
  rw [q4] at hR
  simp only [Bool.false_eq_true, if_false] at hR
  simp
  refine ifGoal_of (fun q5 => ?_) (fun q5 => ?_)
  · rw [q5, if_pos rfl] at hR
    have hc34 : c = 34 := by
      have := beq_iff_eq.1 q5
      exact UInt8.toNat_inj.1 (by simp; omega)
    subst hc34
    simp [hw1]
    refine LoopGoal.cut (fun st => st.hp = [rbox s x] ∧ st.tm 0 = .ref 0 0 ∧ st.tm 4 = i64 (textE s x.at_ : Nat)) ?_ ?_
    · refine ⟨fun m st => ∃ j : Nat, stop s (fun b => b != 34 && b != 10) j = textE s x.at_ ∧ m = s.size - j ∧ j ≤ s.size ∧ st.hp = [rbox s x] ∧ st.tm 0 = .ref 0 0 ∧ st.tm 4 = i64 (j : Nat), s.size - (x.at_ + 1), .here ⟨x.at_ + 1, rfl, rfl, by omega, by simp, by simp, by simp⟩, ?_⟩
      rintro m ⟨tm, hp⟩ ⟨i, h, rfl, hi, h0, g0, g3⟩
      simp only at h0 g0 g3
      subst h0
      rw [stop_eq] at h
      rcases Nat.lt_or_ge i s.size with hlt | hge
      · have hw := w64_id (n := (i : Int) + 1) (by omega) (by omega)
        simp only [w64] at hw
        have hb : s[i]? = some s[i] := by simp [hlt]
        rw [hb] at h
        simp only at h
        simp [hlt, g0, g3]
        generalize hgi : s[i] = b at *
        have e1 : ((b.toNat : Int) != 34) = (b != 34) := by
          have := u8_ne (c := b) (k := 34) (by decide)
          rw [bne, show ((b.toNat : Int) == 34) = _ from this]
          rw [Bool.eq_iff_iff]; simp
        have e2 : ((b.toNat : Int) != 10) = (b != 10) := by
          have := u8_ne (c := b) (k := 10) (by decide)
          rw [bne, show ((b.toNat : Int) == 10) = _ from this]
          rw [Bool.eq_iff_iff]; simp
        rw [e1]
        cases q34 : b != 34 with
        | false =>
          rw [q34, Bool.false_and] at h
          simp only [Bool.false_eq_true, if_false] at h
          simp [g0, g3, ← h]
        | true =>
          simp [hlt, g0, g3, hb, hgi]
          rw [e2]
          cases q10 : b != 10 with
          | false =>
            rw [q10, Bool.and_false] at h
            simp only [Bool.false_eq_true, if_false] at h
            simp [g0, g3, ← h]
          | true =>
            rw [q34, q10, Bool.and_self, if_pos rfl] at h
            simp [g0, g3]
            exact .same (s.size - (i + 1)) (by omega) ⟨i + 1, h, rfl, by omega, by simp, by simp [g0], by simp [hw]⟩
      · have hb : s[i]? = none := by simp [hge]
        rw [hb] at h
        simp only at h
        simp [show ¬ i < s.size by omega, g0, g3, ← h]
    · rintro ⟨tm, hp⟩ ⟨h0, g0, g3⟩
      simp only at h0 g0 g3
      subst h0
      have hle := stop_le s (fun b => b != 34 && b != 10) (x.at_ + 1) (by omega)
      rw [show stop s (fun b => b != 34 && b != 10) (x.at_ + 1) = textE s x.at_ from rfl] at hle
      have hend := stop_end s (fun b => b != 34 && b != 10) (x.at_ + 1)
      rw [show stop s (fun b => b != 34 && b != 10) (x.at_ + 1) = textE s x.at_ from rfl] at hend
      simp only [textS] at hR
      generalize hE : textE s x.at_ = e at *
      have hw := w64_id (n := (e : Int) + 1) (by omega) (by omega)
      simp only [w64] at hw
      rcases Nat.lt_or_ge e s.size with hlt | hge
      · have hb : s[e]? = some s[e] := by simp [hlt]
        have hne : ((e : Int) == s.size) = false := beq_eq_false_iff_ne.2 (by omega)
        simp [hlt, g0, g3, hne]
        rw [hb] at hR hend
        generalize s[e] = b at *
        have hq := hend b rfl
        have e2 : ((b.toNat : Int) == 10) = (b == 10) := by
          have := u8_ne (c := b) (k := 10) (by decide)
          rw [show ((b.toNat : Int) == 10) = _ from this]
          rw [Bool.eq_iff_iff]; simp
        rw [e2]
        by_cases q10 : b = 10
        · subst q10
          rw [if_neg (by simp)] at hR
          subst hR
          simp
          exact .keep (by simp) (.refl _) (by simp) (by simp) (by simp) (by simp)
        · have hb34 : b = 34 := by simpa [q10] using hq
          subst hb34
          rw [if_pos rfl] at hR
          subst hR
          simp [g0, g3, hw]
          have hp := add_ok (W0 := W0) (nb := nb) (s := s) (x := x) (k := 3) (e := e + 1) (by omega) (by omega) h3 (by omega)
          simp at hp
          refine CallGoal.same hp ?_
          simp
          exact .keep (by simp) (.refl _) (by simp) (by simp) (by simp) (by simp)
      · have he : e = s.size := by omega
        have hb : s[e]? = none := by simp [hge]
        rw [hb, if_neg (by simp)] at hR
        subst hR
        simp [g0, g3, he]
        exact .keep (by simp) (.refl _) (by simp) (by simp) (by simp) (by simp)
  rw [q5] at hR
  simp only [Bool.false_eq_true, if_false] at hR
  simp
  refine CallGoal.same digit_ok ?_
  simp
  refine ifGoal_of (fun q6 => ?_) (fun q6 => ?_)
  · rw [q6, if_pos rfl] at hR
    simp
    have ht := to_ok (W0 := W0) (nb := nb) (s := s) (x := x) (i := x.at_) (w := false) (by omega) h3
    simp only [Bool.false_and, Bool.or_false] at ht
    simp only [show (fun c => digit c) = digit from rfl] at ht
    have hle := stop_le s digit x.at_ (Nat.le_of_lt h1)
    simp only [numS, hg] at hR
    generalize hE : stop s digit x.at_ = e at *
    refine CallGoal.same ht ?_
    have hw := w64_id (n := (e : Int) - x.at_) (by omega) (by omega)
    simp only [w64] at hw
    simp [hw]
    have hadd := add_ok (W0 := W0) (nb := nb) (s := s) (x := x) (k := 2) (e := e) (by omega) (by omega) h3 (by omega)
    by_cases p12 : 12 < e - x.at_
    · have p12' : (12 : Int) < (e : Int) - x.at_ := by omega
      simp only [p12, decide_true, Bool.true_or, if_true] at hR
      subst hR
      simp [p12']
      exact .keep (by simp) (.refl _) (by simp) (by simp) (by simp) (by simp)
    have p12' : ¬ (12 : Int) < (e : Int) - x.at_ := by omega
    simp only [p12, decide_false, Bool.false_or] at hR
    have rest : ∀ tm : Nat → DV, True := fun _ => trivial
    by_cases p1 : 1 < e - x.at_
    · have p1' : (1 : Int) < (e : Int) - x.at_ := by omega
      simp [p12', p1', hw]
      cases p48 : ((c.toNat : Int) == 48) with
      | true =>
        simp only [p1, p48, decide_true, Bool.and_self, Option.any_some, Bool.true_or, if_true] at hR
        subst hR
        simp
        exact .keep (by simp) (.refl _) (by simp) (by simp) (by simp) (by simp)
      | false =>
        simp only [p48, Bool.and_false, Option.any_some, Bool.false_or] at hR
        rcases Nat.lt_or_ge e s.size with hlt | hge
        · have hb : s[e]? = some s[e] := by simp [hlt]
          rw [hb] at hR
          simp only [Option.any_some] at hR
          simp [hlt]
          refine CallGoal.same letter_ok ?_
          simp
          cases hq : letter s[e] with
          | true =>
            simp only [hq, if_true] at hR
            subst hR
            simp
            exact .keep (by simp) (.refl _) (by simp) (by simp) (by simp) (by simp)
          | false =>
            simp only [hq, Bool.false_eq_true, if_false] at hR
            subst hR
            simp
            refine CallGoal.same hadd ?_
            simp
            exact .keep (by simp) (.refl _) (by simp) (by simp) (by simp) (by simp)
        · have hb : s[e]? = none := by simp [hge]
          rw [hb] at hR
          simp only [Option.any_none, Bool.false_eq_true, if_false] at hR
          subst hR
          simp [show ¬ e < s.size by omega]
          refine CallGoal.same hadd ?_
          simp
          exact .keep (by simp) (.refl _) (by simp) (by simp) (by simp) (by simp)
    · have p1' : ¬ (1 : Int) < (e : Int) - x.at_ := by omega
      simp only [p1, decide_false, Bool.false_and, Bool.false_or] at hR
      simp [p12', p1', hw]
      rcases Nat.lt_or_ge e s.size with hlt | hge
      · have hb : s[e]? = some s[e] := by simp [hlt]
        rw [hb] at hR
        simp only [Option.any_some] at hR
        simp [hlt]
        refine CallGoal.same letter_ok ?_
        simp
        cases hq : letter s[e] with
        | true =>
          simp only [hq, if_true] at hR
          subst hR
          simp
          exact .keep (by simp) (.refl _) (by simp) (by simp) (by simp) (by simp)
        | false =>
          simp only [hq, Bool.false_eq_true, if_false] at hR
          subst hR
          simp
          refine CallGoal.same hadd ?_
          simp
          exact .keep (by simp) (.refl _) (by simp) (by simp) (by simp) (by simp)
      · have hb : s[e]? = none := by simp [hge]
        rw [hb] at hR
        simp only [Option.any_none, Bool.false_eq_true, if_false] at hR
        subst hR
        simp [show ¬ e < s.size by omega]
        refine CallGoal.same hadd ?_
        simp
        exact .keep (by simp) (.refl _) (by simp) (by simp) (by simp) (by simp)
  rw [q6] at hR
  simp only [Bool.false_eq_true, if_false] at hR
  simp
  refine CallGoal.same letter_ok ?_
  simp
  refine ifGoal_of (fun q7 => ?_) (fun q7 => ?_)
  · rw [q7, if_pos rfl] at hR
    simp
    have ht := to_ok (W0 := W0) (nb := nb) (s := s) (x := x) (i := x.at_) (w := true) (by omega) h3
    simp only [Bool.true_and] at ht
    rw [show (fun c => digit c || letter c) = wordB from by funext c; exact Bool.or_comm _ _] at ht
    have hle := stop_le s wordB x.at_ (Nat.le_of_lt h1)
    simp only [nameS] at hR
    generalize hE : stop s wordB x.at_ = e at *
    refine CallGoal.same ht ?_
    have hw := w64_id (n := (e : Int) - x.at_) (by omega) (by omega)
    simp only [w64] at hw
    simp [hw]
    by_cases p : 24 < e - x.at_
    · have p' : (24 : Int) < (e : Int) - x.at_ := by omega
      rw [if_pos p] at hR
      subst hR
      simp [p']
      exact .keep (by simp) (.refl _) (by simp) (by simp) (by simp) (by simp)
    · have p' : ¬ (24 : Int) < (e : Int) - x.at_ := by omega
      rw [if_neg p] at hR
      subst hR
      simp [p']
      refine drawWp.intro [] [7] mixed (by kernel_rfl) (by kernel_rfl) (by kernel_rfl) ?_
      simp [hle.1, hle.2]
      refine CallGoal.same key_ok ?_
      simp
      refine ⟨by simp [pairsOK, pairsOK2, compatAdd, compatCA, compatSt, Dm.stoB, Dm.callB, Dm.adB, compatDyn, lowOK, allLt, labD, skips, guardD, looksG, guardSlot, looksD, goneD, eatsT, eats, goneL, rdD, wrD, simpleD, anyOwn, disj, ldD, ldOK, mvD], by simp [pairsOK, pairsOK2, compatAdd, compatCA, compatSt, Dm.stoB, Dm.callB, Dm.adB, compatDyn, lowOK, allLt, labD, skips, guardD, looksG, guardSlot, looksD, goneD, eatsT, eats, goneL, rdD, wrD, simpleD, anyOwn, disj, ldD, ldOK, mvD], ?_⟩
      simp
      cases hk : isIn keys (s.extract x.at_ e) with
      | true =>
        simp
        refine CallGoal.same (add_ok (x := x) (k := 5) hle.1 hle.2 h3 (by omega)) ?_
        simp
        exact .keep (by simp) (.refl _) (by simp) (by simp) (by simp) (by simp)
      | false =>
        simp
        refine CallGoal.same (add_ok (x := x) (k := 1) hle.1 hle.2 h3 (by omega)) ?_
        simp
        exact .keep (by simp) (.refl _) (by simp) (by simp) (by simp) (by simp)
  rw [q7] at hR
  simp only [Bool.false_eq_true, if_false] at hR
  simp
  refine ⟨fun n st => n ≤ 2 ∧ opR s x n = R ∧ st.hp = [rbox s x] ∧ st.tm 0 = .ref 0 0 ∧ st.tm 8 = i64 (n : Nat), 2, .here ⟨by omega, hR, by simp, by simp, by simp⟩, ?_⟩
  rintro n ⟨tm, hp⟩ ⟨hn, h, h0, g0, g8⟩
  simp only at h0 g0 g8
  subst h0
  cases n with
  | zero =>
    simp [g0, g8]
    rw [← h]
    simp [opR]
    exact .keep (by simp) (.refl _) (by simp) (by simp) (by simp) (by simp)
  | succ n =>
    have hw1 := w64_id (n := (x.at_ : Int) + ((n : Int) + 1)) (by omega) (by omega)
    have hw3 := w64_id (n := (n : Int)) (by omega) (by omega)
    simp only [w64] at hw1 hw3
    have tn : ((x.at_ : Int) + ((n : Int) + 1)).toNat = x.at_ + (n + 1) := by omega
    simp only [opR] at h
    have hn1 : (1 : Int) ≤ (n : Int) + 1 := by omega
    simp [g0, g8, hn1]
    refine drawWp.intro [] [9, 20, 24] mixed (by kernel_rfl) (by kernel_rfl) (by kernel_rfl) ?_
    simp [g0, g8, hw1]
    by_cases q : x.at_ + (n + 1) ≤ s.size
    · have q2 : (x.at_ : Int) + ((n : Int) + 1) ≤ s.size := by omega
      have q3 : (x.at_ : Int) ≤ (x.at_ : Int) + ((n : Int) + 1) := by omega
      simp [q2, q3, hw1, tn, g0, g8]
      refine CallGoal.same (op_ok) ?_
      cases hq : isIn ops (s.extract x.at_ (x.at_ + (n + 1))) with
      | true =>
        rw [hq, decide_eq_true q, Bool.and_self, if_pos rfl] at h
        simp [hq]
        refine ⟨by simp [pairsOK, pairsOK2, compatAdd, compatCA, compatSt, Dm.stoB, Dm.callB, Dm.adB, compatDyn, lowOK, allLt, labD, skips, guardD, looksG, guardSlot, looksD, goneD, eatsT, eats, goneL, rdD, wrD, simpleD, anyOwn, disj, ldD, ldOK, mvD, g0, g8, q2], by simp [pairsOK, pairsOK2, compatAdd, compatCA, compatSt, Dm.stoB, Dm.callB, Dm.adB, compatDyn, lowOK, allLt, labD, skips, guardD, looksG, guardSlot, looksD, goneD, eatsT, eats, goneL, rdD, wrD, simpleD, anyOwn, disj, ldD, ldOK, mvD, g0, g8, q2], ?_⟩
        simp [g0, g8, hw1]
        have hadd := add_ok (W0 := W0) (nb := nb) (s := s) (x := x) (k := 4) (e := x.at_ + (n + 1)) (by omega) q h3 (by omega)
        simp at hadd
        refine CallGoal.same hadd ?_
        simp [← h]
        exact .keep (by simp) (.refl _) (by simp) (by simp) (by simp) (by simp)
      | false =>
        rw [hq, Bool.and_false] at h
        simp only [Bool.false_eq_true, if_false] at h
        simp [hq]
        refine ⟨by simp [pairsOK, pairsOK2, compatAdd, compatCA, compatSt, Dm.stoB, Dm.callB, Dm.adB, compatDyn, lowOK, allLt, labD, skips, guardD, looksG, guardSlot, looksD, goneD, eatsT, eats, goneL, rdD, wrD, simpleD, anyOwn, disj, ldD, ldOK, mvD, g0, g8, q2], by simp [pairsOK, pairsOK2, compatAdd, compatCA, compatSt, Dm.stoB, Dm.callB, Dm.adB, compatDyn, lowOK, allLt, labD, skips, guardD, looksG, guardSlot, looksD, goneD, eatsT, eats, goneL, rdD, wrD, simpleD, anyOwn, disj, ldD, ldOK, mvD, g0, g8, q2], ?_⟩
        simp [g0, g8, hw3]
        exact .same n (by omega) ⟨by omega, h, by simp, by simp [g0], by simp⟩
    · have q2 : ¬ (x.at_ : Int) + ((n : Int) + 1) ≤ s.size := by omega
      rw [decide_eq_false q, Bool.false_and] at h
      simp only [Bool.false_eq_true, if_false] at h
      simp [q2, g0, g8]
      refine ⟨by simp [pairsOK, pairsOK2, compatAdd, compatCA, compatSt, Dm.stoB, Dm.callB, Dm.adB, compatDyn, lowOK, allLt, labD, skips, guardD, looksG, guardSlot, looksD, goneD, eatsT, eats, goneL, rdD, wrD, simpleD, anyOwn, disj, ldD, ldOK, mvD, g0, g8, q2], by simp [pairsOK, pairsOK2, compatAdd, compatCA, compatSt, Dm.stoB, Dm.callB, Dm.adB, compatDyn, lowOK, allLt, labD, skips, guardD, looksG, guardSlot, looksD, goneD, eatsT, eats, goneL, rdD, wrD, simpleD, anyOwn, disj, ldD, ldOK, mvD, g0, g8, q2], ?_⟩
      simp [g0, g8, hw3]
      exact .same n (by omega) ⟨by omega, h, by simp, by simp [g0], by simp⟩
end Rs
end Go.Proofs.Dm
