/- Part of the proof: contracts of the functions, walked by the D-machine. No condition. -/
import Derived.Test.YtcacihiiilemgaaE9
import Derived.Test.YtcacihiiilemgaaEP1
set_option linter.unusedSimpArgs false
set_option linter.unusedVariables false
set_option maxHeartbeats 40000000
set_option maxRecDepth 100000
namespace Go.Proofs.Dm
open Go Go.Proofs Go.Proofs.Try
attribute [local simp] takes handsOn isTmp Op.operands Call.operands
def fullR (n i : Nat) : List Bool := List.replicate i false ++ List.replicate (n - i) true
theorem fullR_len {n i : Nat} (h : i ≤ n) : (fullR n i).length = n := by simp [fullR]; omega
theorem fullR_getD {n i : Nat} (h : i ≤ n) (q : Nat) (hq : q < n) : (fullR n i).getD q false = decide (i ≤ q) := by
  unfold fullR
  rw [List.getD_eq_getElem?_getD]
  by_cases h1 : q < i
  · rw [List.getElem?_append_left (by simpa using h1), List.getElem?_replicate, if_pos h1]
    simp; omega
  · rw [List.getElem?_append_right (by simp; omega), List.getElem?_replicate, if_pos (by simp; omega)]
    simp; omega
theorem fullR_count {n i : Nat} (h : i ≤ n) : (fullR n i).count true = n - i := by simp [fullR, List.count_replicate]
theorem fullR_least {n i : Nat} (h : i < n) : leastAt (fullR n i) 1 i := by
  refine ⟨by rw [fullR_len (by omega)]; omega, fun k hk => ?_, fun q hq ht => ?_⟩
  · rw [fullR_getD (by omega) _ (by omega)]; simp
  · rw [fullR_len (by omega)] at hq
    have := ht 0 (by omega)
    rw [fullR_getD (by omega) _ (by omega)] at this
    simpa using this
theorem fullR_step {at_ : Int} {n i : Nat} (h : i < n) : setP at_ (fullR n i) (at_ + i) ((1 : Nat) : Int) false = fullR n (i + 1) := by
  have ht := (take_some (at_ := at_) (by omega) (fullR_least h)).2.2
  refine ext_getD (by rw [setP_len, fullR_len (by omega), fullR_len (by omega)]) fun q hq => ?_
  rw [setP_len, fullR_len (by omega)] at hq
  rw [setP_getD ht, fullR_getD (by omega) _ hq, fullR_getD (by omega) _ hq]
  have e : (at_ + (i : Int) - at_).toNat = i := by omega
  rw [e]
  by_cases hqi : q = i
  · subst hqi; simp
  · rw [if_neg (by simp; omega)]
    simp; omega
theorem full_ok {W0 nb} {at_ n : Int} : DCalls ⟨Try.prog, W0, nb⟩ 6 [i64 at_, i64 n] [] (bl true) [] := by
  refine dcalls_end Try.func6 rfl (by kernel_rfl) 79 Try.ntmps6 #[.tmp 4] rfl (Nat.le_of_ble_eq_true rfl) ?_
  by_cases c1 : at_ < 0
  · simp
    refine CallGoal.same begun_ok ?_
    simp [c1]
    exact .keep (by simp) (.refl _) (by simp) (by simp) (by simp) (by simp)
  by_cases c2 : 100 < at_
  · simp
    refine CallGoal.same begun_ok ?_
    simp [c1, c2]
    exact .keep (by simp) (.refl _) (by simp) (by simp) (by simp) (by simp)
  by_cases c3 : n < 0
  · simp
    refine CallGoal.same begun_ok ?_
    simp [c1, c2, c3]
    exact .keep (by simp) (.refl _) (by simp) (by simp) (by simp) (by simp)
  by_cases c4 : 100 < n
  · simp
    refine CallGoal.same begun_ok ?_
    simp [c1, c2, c3, c4]
    exact .keep (by simp) (.refl _) (by simp) (by simp) (by simp) (by simp)
  obtain ⟨k, rfl⟩ : ∃ k : Nat, n = k := ⟨n.toNat, by omega⟩
  simp
  refine CallGoal.same begun_ok ?_
  simp [c1, c2, c3, c4]
  refine CallGoal.same (new_ok (by omega) (by omega)) ?_
  simp
  refine ⟨fun m s => ∃ i, m = k - i ∧ i ≤ k ∧ s.hp = [fbox (fullR k i), [i64 at_, .arr 0 0 1 (fullR k i).length]] ∧ s.tm 0 = i64 at_ ∧ s.tm 1 = i64 k ∧ s.tm 6 = .ref 1 0 ∧ s.tm 7 = i64 i, k,
    .here ⟨0, rfl, by omega, by simp [fullR], by simp, by simp, by simp, by simp⟩, ?_⟩
  rintro m ⟨tm, hp⟩ ⟨i, rfl, hik, q1, q2, q3, q4, q5⟩
  simp only at q1 q2 q3 q4 q5
  subst q1
  have hlen := fullR_len hik
  by_cases hi : i < k
  · have hi' : (i : Int) < k := by omega
    have ht := take_some (at_ := at_) (by omega) (fullR_least hi)
    have hlen2 := fullR_len (n := k) (i := i + 1) (by omega)
    have hcnt := fullR_count (n := k) (i := i + 1) (by omega)
    have w1 : IntKind.i64.wrap (at_ + (i : Int)) = at_ + i := wI (by omega) (by omega)
    have w2 : IntKind.i64.wrap ((k : Int) - i) = (k : Int) - i := wI (by omega) (by omega)
    have w3 : IntKind.i64.wrap ((k : Int) - i - 1) = (k : Int) - i - 1 := wI (by omega) (by omega)
    have w4 : IntKind.i64.wrap ((i : Int) + 1) = ((i + 1 : Nat) : Int) := by rw [wI (by omega) (by omega)]; omega
    have e1 : (((k - (i + 1) : Nat)) : Int) = (k : Int) - i - 1 := by omega
    simp [q2, q3, q4, q5, hi']
    refine CallGoal.same (take_ok (at_ := at_) (n := ((1 : Nat) : Int)) (fr := fullR k i) (by omega) (by omega) (by omega)) ?_
    rw [ht.1, ht.2.1, fullR_step hi]
    simp [room, q2, q3, q4, q5, w1, w2, w3]
    refine CallGoal.same (free_ok (at_ := at_) (fr := fullR k (i + 1)) (by omega) (by omega) (by omega)) ?_
    rw [hcnt, e1]
    simp [room, q2, q3, q4, q5, w1, w2, w3]
    refine .drop (k - (i + 1)) (by omega) 2 (by omega) (by simp) (by simp) ⟨i + 1, rfl, by omega, by simp [dropSt], by simp [dropSt, dropD, q2], by simp [dropSt, dropD, q3], by simp [dropSt, dropD, q4], by simp [dropSt, dropD, w4]⟩
  · have hi' : ¬ ((i : Int) < k) := by omega
    have : i = k := by omega
    subst this
    have hnone := take_none (at_ := at_) (fr := fullR i i) (n := ((1 : Nat) : Int)) (.inr fun q hq ht => by
      simp at hq ht
      have := ht 0 (by omega)
      rw [fullR_getD (by omega) _ (by omega)] at this
      simp at this; omega)
    have hsp : spansP at_ (fullR i i) = [] := by
      have hL := List.eq_nil_iff_forall_not_mem.2 fun r hr => by
        have S := sinv at_ (fullR i i) (fullR i i).length
        obtain ⟨p, m, k1, k2, k3, k4, k5⟩ := S.run r hr
        have := k4 0 (by omega)
        rw [fullR_getD (by omega) _ (by omega)] at this
        simp at this; omega
      exact hL
    simp [q2, q3, q4, q5, hi']
    refine CallGoal.same (take_ok (at_ := at_) (n := ((1 : Nat) : Int)) (fr := fullR i i) (by omega) (by omega) (by omega)) ?_
    rw [hnone.1, hnone.2]
    simp [room, q2, q3, q4, q5]
    refine CallGoal.same (spans_ok (at_ := at_) (fr := fullR i i) (by omega) (by omega) (by omega)) ?_
    rw [hsp]
    simp [room, rowsS]
    exact .keep (by simp) (.refl _) (by simp) (by simp) (by simp) (by simp)
