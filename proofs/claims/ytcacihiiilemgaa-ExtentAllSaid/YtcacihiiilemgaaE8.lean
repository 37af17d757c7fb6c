/- Part of the proof: contracts of the functions, walked by the D-machine. No condition. -/
import Derived.Test.YtcacihiiilemgaaE7
set_option linter.unusedSimpArgs false
set_option linter.unusedVariables false
set_option maxHeartbeats 8000000
namespace Go.Proofs.Dm
open Go Go.Proofs Go.Proofs.Try
attribute [local simp] takes handsOn isTmp Op.operands Call.operands
def sameB (at_ : Int) (fr free : List Bool) : List (List DV) := [[i64 at_, .arr 2 0 1 fr.length], fbox free, fbox fr]
/-- Behind the first loop of same. -/
def sameJ (at_ : Int) (fr free : List Bool) (s : St) : Prop :=
  ((spansP 0 free = [] ∧ s.hp = sameB at_ fr free ∧ s.tm 5 = .mt 30 2) ∨ (spansP 0 free ≠ [] ∧ s.hp = sameB at_ fr free ++ [sbox (spansP 0 free)] ∧ s.tm 5 = .arr 3 0 2 (spansP 0 free).length)) ∧
    s.tm 0 = .ref 0 0 ∧ s.tm 6 = i64 (free.count true)
def sameI (at_ : Int) (fr free : List Bool) (i : Nat) (s : St) : Prop :=
  ((spansN 0 free i = [] ∧ s.hp = sameB at_ fr free ∧ s.tm 5 = .mt 30 2) ∨ (spansN 0 free i ≠ [] ∧ s.hp = sameB at_ fr free ++ [sbox (spansN 0 free i)] ∧ s.tm 5 = .arr 3 0 2 (spansN 0 free i).length)) ∧
    s.tm 0 = .ref 0 0 ∧ s.tm 1 = .arr 1 0 1 free.length ∧ s.tm 6 = i64 ((free.take i).count true) ∧ s.tm 7 = i64 i
theorem same_ok {W0 nb} {at_ : Int} {fr free : List Bool} (h1 : 0 ≤ at_) (h2 : at_ ≤ 100000) (h3 : fr.length ≤ 100000) (h4 : free.length ≤ 100000) (hs : spansP at_ fr = spansP 0 free) (hc : fr.count true = free.count true) :
    DCalls ⟨Try.prog, W0, nb⟩ 14 [.ref 0 0, .arr 1 0 1 free.length] (sameB at_ fr free) (bl true) (sameB at_ fr free) := by
  refine dcalls_end Try.func14 rfl (by kernel_rfl) 90 Try.ntmps14 #[.tmp 4] rfl (Nat.le_of_ble_eq_true rfl) ?_
  simp [sameB]
  refine LoopGoal.cut (sameJ at_ fr free) ?_ ?_
  · refine ⟨fun m s => ∃ i, m = free.length - i ∧ i ≤ free.length ∧ sameI at_ fr free i s, free.length, ?_, ?_⟩
    · refine ⟨_, Gh.weakAt 5 (.mt 30 2) (by simp; exact .ownmt _ _), 0, rfl, by omega, .inl ⟨rfl, by simp [sameB], by simp⟩, by simp, by simp, by simp, by simp⟩
    rintro m ⟨tm, hp⟩ ⟨i, rfl, hil, hcase, q2, q3, q4, q5⟩
    simp only at q2 q3 q4 q5 hcase
    obtain ⟨f1, f2, f3⟩ := spansN_facts 0 free i
    have f4 : (free.take i).count true ≤ i := Nat.le_trans List.count_le_length (by simp; omega)
    by_cases hi : i < free.length
    · have hi' : ((i : Int) < free.length) := by omega
      have hget : free[i]? = some free[i] := List.getElem?_eq_getElem hi
      have hgd : free.getD i false = free[i] := by rw [List.getD_eq_getElem?_getD, hget]; rfl
      have ht1 := take1 hget
      have w3 : IntKind.i64.wrap ((i : Int) + 1) = ((i + 1 : Nat) : Int) := by rw [wI (by omega) (by omega)]; omega
      have w4 : IntKind.i64.wrap (((free.take i).count true : Nat) + 1 : Int) = (((free.take i).count true + 1 : Nat) : Int) := by rw [wI (by omega) (by omega)]; omega
      have ht : free.take (i + 1) = free.take i ++ [free[i]] := by rw [List.take_add_one, hget]; rfl
      have e1 : i + 1 ≤ free.length := by omega
      have e2 : ¬ (free = []) := by intro e; subst e; simp at hi
      -- the element ahead
      have hprev : 0 < i → ∃ c, free[i - 1]? = some c ∧ (free.drop (i - 1)).take 1 = [c] ∧ free.getD (i - 1) false = c ∧ IntKind.i64.wrap ((i : Int) - 1) = ((i : Int) - 1) ∧ ((i : Int) - 1).toNat = i - 1 ∧ i - 1 < free.length ∧ i - 1 + 1 ≤ free.length ∧ (1 : Int) ≤ i := fun h0 => by
        have hg : free[i - 1]? = some (free[i - 1]'(by omega)) := List.getElem?_eq_getElem (by omega)
        exact ⟨_, hg, take1 hg, by rw [List.getD_eq_getElem?_getD, hg]; rfl, wI (by omega) (by omega), by omega, by omega, by omega, by omega⟩
      have cF : free[i] = false → (free.take (i + 1)).count true = (free.take i).count true := fun hb => by rw [ht, hb]; simp
      have cT : free[i] = true → (free.take (i + 1)).count true = (free.take i).count true + 1 := fun hb => by rw [ht, hb]; simp
      rcases hcase with ⟨s1, s2, s3⟩ | ⟨s1, s2, s3⟩
      · subst s2
        cases hb : free[i] with
        | false =>
          have hn : spansN 0 free (i + 1) = [] := by simp only [spansN, hgd, hb, if_true]; exact s1
          simp [sameB, s3, q2, q3, q4, q5, hi, hi', ht1, e1, e2, hb]
          exact .same (free.length - (i + 1)) (by omega) ⟨i + 1, rfl, by omega, .inl ⟨hn, rfl, by simp [s3]⟩, by simp [q2], by simp [q3], by simp [q4, cF hb], by simp [w3]⟩
        | true =>
          have hn : spansN 0 free (i + 1) = [((0 : Int) + i, 1)] := by
            have : ¬ (0 < i ∧ free.getD (i - 1) false = true) := fun q => by
              obtain ⟨l, r, e⟩ := f3 q.1 q.2
              rw [s1] at e; simp at e
            simp only [spansN, hgd, hb]
            rw [if_neg (by simp), if_neg this, s1]; rfl
          rcases Nat.eq_zero_or_pos i with h0 | h0
          · have h0' : ¬ (0 < i) := by omega
            simp [sameB, s3, q2, q3, q4, q5, hi, hi', ht1, e1, e2, hb, h0', w4]
            exact .same (free.length - (i + 1)) (by omega) ⟨i + 1, rfl, by omega, .inr ⟨by rw [hn]; simp, by simp [hn, sameB], by rw [hn]; simp⟩, by simp [q2], by simp [q3], by simp [cT hb], by simp [w3]⟩
          · obtain ⟨c, p1, p2, p3, p4, p5, p6, p7, p8⟩ := hprev h0
            have hc : c = false := by
              cases c
              · rfl
              · obtain ⟨l, r, e⟩ := f3 h0 p3
                rw [s1] at e; simp at e
            subst hc
            simp [sameB, s3, q2, q3, q4, q5, hi, hi', ht1, e1, e2, hb, h0, w4, p2, p4, p5, p6, p7, p8]
            exact .same (free.length - (i + 1)) (by omega) ⟨i + 1, rfl, by omega, .inr ⟨by rw [hn]; simp, by simp [hn, sameB], by rw [hn]; simp⟩, by simp [q2], by simp [q3], by simp [cT hb], by simp [w3]⟩
      · subst s2
        cases hb : free[i] with
        | false =>
          have hn : spansN 0 free (i + 1) = spansN 0 free i := by simp only [spansN, hgd, hb, if_true]
          simp [sameB, s3, q2, q3, q4, q5, hi, hi', ht1, e1, e2, hb]
          exact .same (free.length - (i + 1)) (by omega) ⟨i + 1, rfl, by omega, .inr ⟨by rw [hn]; exact s1, by simp [hn, sameB], by rw [hn]; simp [s3]⟩, by simp [q2], by simp [q3], by simp [q4, cF hb], by simp [w3]⟩
        | true =>
          by_cases hp : 0 < i ∧ free.getD (i - 1) false = true
          · -- the last one is longer
            obtain ⟨h0, hp2⟩ := hp
            obtain ⟨l, r, e⟩ := f3 h0 hp2
            have hn : spansN 0 free (i + 1) = l ++ [(r.1, r.2 + 1)] := by
              simp only [spansN, hgd, hb]
              rw [if_neg (by simp), if_pos ⟨h0, hp2⟩, e, bump_app]
            obtain ⟨c, p1, p2, p3, p4, p5, p6, p7, p8⟩ := hprev h0
            rw [p3] at hp2; subst hp2
            have hr := f1 r (by rw [e]; simp)
            rw [e] at f2; simp at f2
            rw [e] at s3 ⊢
            have w5 : IntKind.i64.wrap (l.length : Int) = l.length := wI (by omega) (by omega)
            have w6 : IntKind.i64.wrap (r.2 + 1) = r.2 + 1 := wI (by omega) (by omega)
            have g1 : ((sbox (l ++ [r])).drop (l.length * 2 + 1)).take 1 = [i64 r.2] := by
              rw [sbox_app, List.drop_append, List.drop_of_length_le (by simp)]
              simp [sbox_cons]
            have g2 : ∀ x, (sbox (l ++ [r])).take (l.length * 2 + 1) ++ i64 x :: (sbox (l ++ [r])).drop (l.length * 2 + 1 + 1) = sbox (l ++ [(r.1, x)]) := fun x => by
              rw [sbox_app, sbox_app, List.take_append, List.drop_append, List.take_of_length_le (by simp), List.drop_of_length_le (by simp; omega)]
              have k1 : l.length * 2 + 1 - l.length * 2 = 1 := by omega
              have k2 : l.length * 2 + 1 + 1 - l.length * 2 = 2 := by omega
              simp [sbox_cons, k1, k2]
            have g3 : l.length * 2 + 1 + 1 ≤ (l.length + 1) * 2 := by omega
            simp [sameB, s3, q2, q3, q4, q5, hi, hi', ht1, e1, e2, hb, h0, w4, p2, p4, p5, p6, p7, p8, w5, w6, g1, g2, g3]
            exact .same (free.length - (i + 1)) (by omega) ⟨i + 1, rfl, by omega, .inr ⟨by rw [hn]; simp, by simp [hn, sameB], by rw [hn]; simp [s3]⟩, by simp [q2], by simp [q3], by simp [cT hb], by simp [w3]⟩
          · have hn : spansN 0 free (i + 1) = spansN 0 free i ++ [((0 : Int) + i, 1)] := by
              simp only [spansN, hgd, hb]
              rw [if_neg (by simp), if_neg hp]
            have hl0 : 0 < (spansN 0 free i).length := List.length_pos_iff.2 s1
            have g1 : (spansN 0 free i).length + 1 ≤ 70368744177664 := by omega
            have g2 : (spansN 0 free i).length + 1 ≤ 9223372036854775807 := by omega
            have g3 : ((spansN 0 free i).length + 1) * 16 ≤ 140737488355328 := by omega
            have endB : ∀ tm' : Nat → DV, tm' 0 = .ref 0 0 → tm' 1 = .arr 1 0 1 free.length → tm' 6 = i64 (((free.take i).count true : Nat) + 1) → tm' 7 = i64 ((i : Int) + 1) → tm' 5 = .arr 4 0 2 ((spansN 0 free i).length + 1) →
                RoundEnd (fun m s => ∃ i, m = free.length - i ∧ i ≤ free.length ∧ sameI at_ fr free i s) 3 (free.length - i) ⟨tm', [[i64 at_, .arr 2 0 1 fr.length], fbox free, fbox fr, [], sbox (spansN 0 free i ++ [((i : Int), 1)])]⟩ := by
              intro tm' k0 k1 k2 k3 k4
              refine .by (free.length - (i + 1)) (by omega) (Gh.ren [0, 1, 2, 4] [[i64 at_, .arr 2 0 1 fr.length], fbox free, fbox fr, sbox (spansN 0 free i ++ [((i : Int), 1)])] (by simp) (by decide) (by decide) (by simp)) ⟨i + 1, rfl, by omega, .inr ⟨by rw [hn]; simp, ?_, ?_⟩, ?_, ?_, ?_, ?_⟩
              · simp [renSt, hn, sameB, show List.idxOf 2 [0, 1, 2, 4] = 2 from rfl]
              · simp [renSt, renD, k4, hn, show List.idxOf 4 [0, 1, 2, 4] = 3 from rfl]
              · simp [renSt, renD, k0]
              · simp [renSt, renD, k1, show List.idxOf 1 [0, 1, 2, 4] = 1 from rfl]
              · simp [renSt, renD, k2, cT hb]
              · simp [renSt, renD, k3]
            rcases Nat.eq_zero_or_pos i with h0 | h0
            · have h0' : ¬ (0 < i) := by omega
              simp [sameB, s3, q2, q3, q4, q5, hi, hi', ht1, e1, e2, hb, h0', w4, hl0, s1, g1, g2, g3, sbox_app']
              exact endB _ (by simp [q2]) (by simp [q3]) (by simp) (by simp [w3]) (by simp)
            · obtain ⟨c, p1, p2, p3, p4, p5, p6, p7, p8⟩ := hprev h0
              have hc : c = false := by
                cases c
                · rfl
                · exact absurd ⟨h0, p3⟩ hp
              subst hc
              simp [sameB, s3, q2, q3, q4, q5, hi, hi', ht1, e1, e2, hb, h0, w4, p2, p4, p5, p6, p7, p8, hl0, s1, g1, g2, g3, sbox_app']
              exact endB _ (by simp [q2]) (by simp [q3]) (by simp) (by simp [w3]) (by simp)
    · have hi' : ¬ ((i : Int) < free.length) := by omega
      have : i = free.length := by omega
      subst this
      rw [List.take_length] at q4
      rcases hcase with ⟨s1, s2, s3⟩ | ⟨s1, s2, s3⟩
      · subst s2
        simp [sameB, s3, q2, q3, q4, q5, hi']
        exact ⟨.inl ⟨s1, rfl, by simp [s3]⟩, by simp [q2], by simp [q4]⟩
      · subst s2
        simp [sameB, s3, q2, q3, q4, q5, hi']
        exact ⟨.inr ⟨s1, rfl, by simp [s3]; rfl⟩, by simp [q2], by simp [q4]⟩
  · rintro ⟨tm, hp⟩ ⟨hcase, q2, q4⟩
    simp only at hcase q2 q4
    have f2 := (spansN_facts 0 free free.length).2.1
    have f2' : (spansP 0 free).length ≤ free.length := f2
    rcases hcase with ⟨s1, s2, s3⟩ | ⟨s1, s2, s3⟩
    · subst s2
      simp [sameB, q2]
      refine CallGoal.same (spans_ok h1 h2 h3) ?_
      rw [hs]
      simp [room, rowsS, q2, s3]
      refine CallGoal.same (free_ok h1 h2 h3) ?_
      rw [hc]
      simp [room, q4, s3, s1]
      refine ⟨fun m s => s.hp = sameB at_ fr free ∧ s.tm 5 = .mt 30 2 ∧ s.tm 9 = i64 0, 1, .here ⟨by simp [sameB], by simp [s3], by simp⟩, ?_⟩
      rintro m ⟨tm', hp'⟩ ⟨p1, p2, p3⟩
      simp only at p1 p2 p3
      subst p1
      simp [sameB, p2, p3]
      exact .keep (by simp) (.refl _) (by simp) (by simp) (by simp) (by simp)
    · subst s2
      generalize hL : spansP 0 free = L at *
      simp [sameB, q2]
      refine CallGoal.same (spans_ok h1 h2 h3) ?_
      rw [hs]
      simp [room, rowsS, q2, s3]
      refine CallGoal.same (free_ok h1 h2 h3) ?_
      rw [hc]
      simp [room, q4, s3]
      refine ⟨fun m s => ∃ i, m = L.length - i ∧ i ≤ L.length ∧ s.hp = sameB at_ fr free ++ [[]] ∧ s.tm 5 = rowsS L ∧ s.tm 8 = rowsS L ∧ s.tm 9 = i64 i, L.length, ?_, ?_⟩
      · refine ⟨_, Gh.freeze 5 3 2 L.length (L.map encS) (by simp [s3]) (by simp; rfl) (by omega) (by intro x hx; obtain ⟨r, _, rfl⟩ := List.mem_map.1 hx; rfl) (by simp), 0, rfl, by omega, by simp [sameB], by simp [rowsS], by simp [rowsS], by simp⟩
      rintro m ⟨tm', hp'⟩ ⟨i, rfl, hil, p1, p2, p3, p4⟩
      simp only at p1 p2 p3 p4
      subst p1
      by_cases hi : i < L.length
      · have hi' : ((i : Int) < L.length) := by omega
        have g1 := get_map hi
        have w3 : IntKind.i64.wrap ((i : Int) + 1) = ((i + 1 : Nat) : Int) := by rw [wI (by omega) (by omega)]; omega
        simp [sameB, rowsS, p2, p3, p4, hi']
        refine drawWp.intro [] [9, 21] mixed (by kernel_rfl) (by kernel_rfl) (by kernel_rfl) ?_
        simp [rowsS, p2, p3, p4, g1, encS]
        refine ⟨by simp [pairsOK, compatDyn, lowOK, allLt, labD, skips, guardD, looksG, guardSlot, looksD, goneD, eatsT, eats, goneL, rdD, wrD, simpleD, anyOwn, disj, rowsS, p2, p3, p4, g1, encS], by simp [pairsOK, compatDyn, lowOK, allLt, labD, skips, guardD, looksG, guardSlot, looksD, goneD, eatsT, eats, goneL, rdD, wrD, simpleD, anyOwn, disj, rowsS, p2, p3, p4, g1, encS], ?_⟩
        simp [rowsS, p2, p3, p4, g1, encS]
        exact .same (L.length - (i + 1)) (by omega) ⟨i + 1, rfl, by omega, by simp [sameB], by simp [p2, rowsS], by simp [p3, rowsS], by simp [w3]⟩
      · have hi' : ¬ ((i : Int) < L.length) := by omega
        simp [sameB, rowsS, p2, p3, p4, hi']
        exact .keep (by simp) (.refl _) (by simp) (by simp) (by simp) (by simp)
