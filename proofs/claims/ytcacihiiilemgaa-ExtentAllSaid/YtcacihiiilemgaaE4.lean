/- Part of the proof: contracts of the functions, walked by the D-machine. No condition. -/
import Derived.Test.YtcacihiiilemgaaE3
set_option linter.unusedSimpArgs false
set_option linter.unusedVariables false
namespace Go.Proofs.Dm
open Go Go.Proofs Go.Proofs.Try
/-- i of a row, from off on, are b. -/
def fillN (fr : List Bool) (off i : Nat) (b : Bool) : List Bool := fr.take off ++ List.replicate i b ++ fr.drop (off + i)
theorem fillN_zero (fr : List Bool) (off : Nat) (b : Bool) : fillN fr off 0 b = fr := by simp [fillN]
@[simp] theorem fillN_len {fr : List Bool} {off i : Nat} {b : Bool} (h : off + i ≤ fr.length) : (fillN fr off i b).length = fr.length := by simp [fillN]; omega
theorem fillN_succ {fr : List Bool} {off i : Nat} {b : Bool} (h : off + i + 1 ≤ fr.length) : (fillN fr off i b).take (off + i) ++ b :: (fillN fr off i b).drop (off + i + 1) = fillN fr off (i + 1) b := by
  have hl : (fr.take off ++ List.replicate i b).length = off + i := by simp; omega
  unfold fillN
  rw [List.take_append_of_le_length (by omega), List.take_of_length_le (by omega), List.drop_append, hl, List.drop_of_length_le (by omega), List.nil_append]
  have e : off + i + 1 - (off + i) = 1 := by omega
  rw [e, List.drop_drop, List.replicate_succ']
  simp [Nat.add_assoc]
def setP (at_ : Int) (fr : List Bool) (a l : Int) (b : Bool) : List Bool :=
  if allP at_ fr a l (!b) then fillN fr (a - at_).toNat l.toNat b else fr
theorem allP_true {at_ a l : Int} {fr : List Bool} {b : Bool} (h : allP at_ fr a l b = true) : 1 ≤ l ∧ l ≤ fr.length ∧ at_ ≤ a ∧ a - at_ + l ≤ fr.length := by
  unfold allP at h
  split at h
  · cases h
  · split at h
    · cases h
    · split at h
      · cases h
      · split at h
        · cases h
        · omega
theorem set_ok {W0 nb} {at_ a l : Int} {fr : List Bool} {b : Bool} (h1 : 0 ≤ at_) (h2 : at_ ≤ 100000) (h3 : fr.length ≤ 100000) (h4 : a ≤ 9223372036854775807) :
    DCalls ⟨Try.prog, W0, nb⟩ 19 [.ref 0 0, .agg [i64 a, i64 l], bl b] (room at_ fr) (bl (allP at_ fr a l (!b))) (room at_ (setP at_ fr a l b)) := by
  refine dcalls_end Try.func19 rfl (by kernel_rfl) 35 Try.ntmps19 #[.tmp 6] rfl (Nat.le_of_ble_eq_true rfl) ?_
  simp [room]
  refine CallGoal.same (all_ok h1 h2 h3 h4) ?_
  simp [room]
  unfold setP
  cases h0 : allP at_ fr a l (!b) with
  | false =>
    simp
    exact .keep (by simp) (.refl _) (by simp) (by simp) (by simp) (by simp)
  | true =>
    obtain ⟨c1, c2, c3, c4⟩ := allP_true h0
    generalize hk : l.toNat = k at *
    have hl : l = (k : Int) := by omega
    generalize ho : (a - at_).toNat = off at *
    have ha : a - at_ = (off : Int) := by omega
    have hoff : off + k ≤ fr.length := by omega
    simp [fillN_len hoff]
    refine ⟨fun m s => ∃ i, m = k - i ∧ i ≤ k ∧ s.hp = [[i64 at_, .arr 1 0 1 fr.length], fbox (fillN fr off i b), [i64 a, i64 l]] ∧ s.tm 0 = .ref 0 0 ∧ s.tm 2 = bl b ∧ s.tm 4 = .ref 2 0 ∧ s.tm 15 = i64 l ∧ s.tm 16 = i64 i, k,
      .here ⟨0, rfl, by omega, by simp [fillN_zero], by simp, by simp, by simp, by simp, by simp⟩, ?_⟩
    rintro m ⟨tm, hp⟩ ⟨i, rfl, hik, q1, q2, q3, q4, q5, q6⟩
    simp only at q1 q2 q3 q4 q5 q6
    subst q1
    by_cases hi : i < k
    · have hi' : ((i : Int) < l) := by omega
      have w1 : IntKind.i64.wrap (a - at_) = off := by rw [wI (by omega) (by omega)]; exact ha
      have w2 : IntKind.i64.wrap ((off : Int) + i) = ((off + i : Nat) : Int) := by rw [wI (by omega) (by omega)]; omega
      have w3 : IntKind.i64.wrap ((i : Int) + 1) = ((i + 1 : Nat) : Int) := by rw [wI (by omega) (by omega)]; omega
      have e1 : off + i < fr.length := by omega
      have e2 : off + i + 1 ≤ fr.length := by omega
      have e3 := fillN_len (fr := fr) (off := off) (i := i) (b := b) (by omega)
      have e4 : ¬ (fillN fr off i b = []) := by intro e; rw [e] at e3; simp at e3; omega
      have e5 : (0:Int) ≤ (off : Int) + i := by omega
      have e6 : ((off : Int) + (i : Int)).toNat = off + i := by omega
      have e7 := fillN_succ (b := b) e2
      simp [q2, q3, q4, q5, q6, hi']
      refine drawWp.intro [] [5, 9] mixed (by kernel_rfl) (by kernel_rfl) (by kernel_rfl) ?_
      simp [q2, q3, q4, q5, q6, hi', w1, w2, e1, e2, e3, e4, e5, e6, e7]
      refine ⟨by simp [pairsOK, compatDyn, lowOK, allLt, labD, skips, guardD, looksG, guardSlot, looksD, goneD, eatsT, eats, goneL, rdD, wrD, simpleD, anyOwn, disj, q2, q3, q4, q5, q6, hi', w1, w2, e1, e2, e3, e4, e5, e6, e7], by simp [pairsOK, compatDyn, lowOK, allLt, labD, skips, guardD, looksG, guardSlot, looksD, goneD, eatsT, eats, goneL, rdD, wrD, simpleD, anyOwn, disj, q2, q3, q4, q5, q6, hi', w1, w2, e1, e2, e3, e4, e5, e6, e7], ?_⟩
      simp [q2, q3, q4, q5, q6, hi', w1, w2, e1, e2, e3, e4, e5, e6, e7]
      exact .same (k - (i + 1)) (by omega) ⟨i + 1, rfl, by omega, by simp, by simp [q2], by simp [q3], by simp [q4], by simp [q5], by simp [w3]⟩
    · have hi' : ¬ ((i : Int) < l) := by omega
      have : i = k := by omega
      subst this
      simp [q2, q3, q4, q5, q6, hi']
      exact .keep (by simp) (.refl _) (by simp) (by simp) (by simp) (by simp)

theorem use_ok {W0 nb} {at_ a l : Int} {fr : List Bool} (h1 : 0 ≤ at_) (h2 : at_ ≤ 100000) (h3 : fr.length ≤ 100000) (h4 : a ≤ 9223372036854775807) :
    DCalls ⟨Try.prog, W0, nb⟩ 12 [.ref 0 0, .agg [i64 a, i64 l]] (room at_ fr) (bl (allP at_ fr a l true)) (room at_ (setP at_ fr a l false)) := by
  refine dcalls_end Try.func12 rfl (by kernel_rfl) 8 Try.ntmps12 #[.tmp 4] rfl (Nat.le_of_ble_eq_true rfl) ?_
  simp [room]
  refine CallGoal.same (set_ok (b := false) h1 h2 h3 h4) ?_
  simp [room]
  exact .keep (by simp) (.refl _) (by simp) (by simp) (by simp) (by simp)
theorem give_ok {W0 nb} {at_ a l : Int} {fr : List Bool} (h1 : 0 ≤ at_) (h2 : at_ ≤ 100000) (h3 : fr.length ≤ 100000) (h4 : a ≤ 9223372036854775807) :
    DCalls ⟨Try.prog, W0, nb⟩ 13 [.ref 0 0, .agg [i64 a, i64 l]] (room at_ fr) (bl (allP at_ fr a l false)) (room at_ (setP at_ fr a l true)) := by
  refine dcalls_end Try.func13 rfl (by kernel_rfl) 8 Try.ntmps13 #[.tmp 4] rfl (Nat.le_of_ble_eq_true rfl) ?_
  simp [room]
  refine CallGoal.same (set_ok (b := true) h1 h2 h3 h4) ?_
  simp [room]
  exact .keep (by simp) (.refl _) (by simp) (by simp) (by simp) (by simp)
/-- The same of no room. -/
theorem all_nil {W0 nb} {a l : Int} {b : Bool} : DCalls ⟨Try.prog, W0, nb⟩ 22 [.p .nilp, .agg [i64 a, i64 l], bl b] [] (bl false) [] := by
  refine dcalls_end Try.func22 rfl (by kernel_rfl) 73 Try.ntmps22 #[.tmp 6] rfl (Nat.le_of_ble_eq_true rfl) ?_
  simp
  refine drawWp.intro [] [13, 23, 32, 37, 40] mixed (by kernel_rfl) (by kernel_rfl) (by kernel_rfl) ?_
  simp
  refine ⟨by simp [pairsOK, compatDyn, lowOK, allLt, labD, skips, guardD, looksG, guardSlot, looksD, goneD, eatsT, eats, goneL, rdD, wrD, simpleD, anyOwn, disj], by simp [pairsOK, compatDyn, lowOK, allLt, labD, skips, guardD, looksG, guardSlot, looksD, goneD, eatsT, eats, goneL, rdD, wrD, simpleD, anyOwn, disj], ?_⟩
  simp
  exact .keep (by simp) (.refl _) (by simp) (by simp) (by simp) (by simp)
theorem set_nil {W0 nb} {a l : Int} {b : Bool} : DCalls ⟨Try.prog, W0, nb⟩ 19 [.p .nilp, .agg [i64 a, i64 l], bl b] [] (bl false) [] := by
  refine dcalls_end Try.func19 rfl (by kernel_rfl) 35 Try.ntmps19 #[.tmp 6] rfl (Nat.le_of_ble_eq_true rfl) ?_
  simp
  refine CallGoal.same all_nil ?_
  simp
  exact .keep (by simp) (.refl _) (by simp) (by simp) (by simp) (by simp)
theorem use_nil {W0 nb} {a l : Int} : DCalls ⟨Try.prog, W0, nb⟩ 12 [.p .nilp, .agg [i64 a, i64 l]] [] (bl false) [] := by
  refine dcalls_end Try.func12 rfl (by kernel_rfl) 8 Try.ntmps12 #[.tmp 4] rfl (Nat.le_of_ble_eq_true rfl) ?_
  simp
  refine CallGoal.same set_nil ?_
  simp
  exact .keep (by simp) (.refl _) (by simp) (by simp) (by simp) (by simp)
theorem give_nil {W0 nb} {a l : Int} : DCalls ⟨Try.prog, W0, nb⟩ 13 [.p .nilp, .agg [i64 a, i64 l]] [] (bl false) [] := by
  refine dcalls_end Try.func13 rfl (by kernel_rfl) 8 Try.ntmps13 #[.tmp 4] rfl (Nat.le_of_ble_eq_true rfl) ?_
  simp
  refine CallGoal.same set_nil ?_
  simp
  exact .keep (by simp) (.refl _) (by simp) (by simp) (by simp) (by simp)
