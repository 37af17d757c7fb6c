/- Part of the proof: contracts of the functions, walked by the D-machine. No condition. -/
import Derived.Test.YtcacihiiilemgaaE11
set_option linter.unusedSimpArgs false
set_option linter.unusedVariables false
set_option maxHeartbeats 40000000
set_option maxRecDepth 100000
namespace Go.Proofs.Dm
open Go Go.Proofs Go.Proofs.Try
attribute [local simp] takes handsOn isTmp Op.operands Call.operands
theorem fullR_leastK {n i k : Nat} (hk : 1 ≤ k) (h : i + k ≤ n) : leastAt (fullR n i) k i := by
  refine ⟨by rw [fullR_len (by omega)]; omega, fun j hj => ?_, fun q hq ht => ?_⟩
  · rw [fullR_getD (by omega) _ (by omega)]; simp
  · rw [fullR_len (by omega)] at hq
    have := ht 0 (by omega)
    rw [fullR_getD (by omega) _ (by omega)] at this
    simpa using this
theorem fullR_stepK {at_ : Int} {n i k : Nat} (hk : 1 ≤ k) (h : i + k ≤ n) : setP at_ (fullR n i) (at_ + i) (k : Int) false = fullR n (i + k) := by
  have ht := (take_some (at_ := at_) hk (fullR_leastK hk h)).2.2
  refine ext_getD (by rw [setP_len, fullR_len (by omega), fullR_len (by omega)]) fun q hq => ?_
  rw [setP_len, fullR_len (by omega)] at hq
  rw [setP_getD ht, fullR_getD (by omega) _ hq, fullR_getD (by omega) _ hq]
  have e : (at_ + (i : Int) - at_).toNat = i := by omega
  rw [e, Int.toNat_natCast]
  by_cases hqi : i ≤ q ∧ q < i + k
  · rw [if_pos hqi]; simp; omega
  · rw [if_neg hqi]
    have : (i ≤ q) = (i + k ≤ q) := by apply propext; constructor <;> intro <;> omega
    simp only [this]
theorem fullR_back {at_ : Int} {n i k : Nat} (hk : 1 ≤ k) (h : i + k ≤ n) : allP at_ (fullR n (i + k)) (at_ + i) (k : Int) false = true ∧ setP at_ (fullR n (i + k)) (at_ + i) (k : Int) true = fullR n i := by
  have ha : allP at_ (fullR n (i + k)) (at_ + i) (k : Int) false = true := by
    rw [allP_iff]
    refine ⟨by omega, by omega, by rw [fullR_len (by omega)]; omega, fun j hj => ?_⟩
    have e : (at_ + (i : Int) - at_).toNat + j = i + j := by omega
    rw [e, fullR_getD (by omega) _ (by omega)]
    simp; omega
  refine ⟨ha, ext_getD (by rw [setP_len, fullR_len (by omega), fullR_len (by omega)]) fun q hq => ?_⟩
  rw [setP_len, fullR_len (by omega)] at hq
  rw [setP_getD (b := true) ha, fullR_getD (by omega) _ hq, fullR_getD (by omega) _ hq]
  have e : (at_ + (i : Int) - at_).toNat = i := by omega
  rw [e, Int.toNat_natCast]
  by_cases hqi : i ≤ q ∧ q < i + k
  · rw [if_pos hqi]; simp; omega
  · rw [if_neg hqi]
    have : (i ≤ q) = (i + k ≤ q) := by apply propext; constructor <;> intro <;> omega
    simp only [this]
theorem copyl_ok {W0 nb} {x y : Int} : DCalls ⟨Try.prog, W0, nb⟩ 7 [i64 x, i64 y] [] (bl true) [] := by
  refine dcalls_end Try.func7 rfl (by kernel_rfl) 77 Try.ntmps7 #[.tmp 4] rfl (Nat.le_of_ble_eq_true rfl) ?_
  by_cases c1 : x < 1
  · simp
    refine CallGoal.same begun_ok ?_
    simp [c1]
    exact .keep (by simp) (.refl _) (by simp) (by simp) (by simp) (by simp)
  by_cases c2 : 20 < x
  · simp
    refine CallGoal.same begun_ok ?_
    simp [c1, c2]
    exact .keep (by simp) (.refl _) (by simp) (by simp) (by simp) (by simp)
  by_cases c3 : y < 1
  · simp
    refine CallGoal.same begun_ok ?_
    simp [c1, c2, c3]
    exact .keep (by simp) (.refl _) (by simp) (by simp) (by simp) (by simp)
  by_cases c4 : 20 < y
  · simp
    refine CallGoal.same begun_ok ?_
    simp [c1, c2, c3, c4]
    exact .keep (by simp) (.refl _) (by simp) (by simp) (by simp) (by simp)
  obtain ⟨a, rfl⟩ : ∃ k : Nat, x = k := ⟨x.toNat, by omega⟩
  obtain ⟨b, rfl⟩ : ∃ k : Nat, y = k := ⟨y.toNat, by omega⟩
  have s1 : fullR 40 0 = List.replicate 40 true := rfl
  have l1 := fullR_len (n := 40) (i := a) (by omega)
  have l2 := fullR_len (n := 40) (i := a + b) (by omega)
  have t1 := take_some (at_ := 0) (by omega) (fullR_leastK (n := 40) (i := 0) (k := a) (by omega) (by omega))
  have u1 := fullR_stepK (at_ := 0) (n := 40) (i := 0) (k := a) (by omega) (by omega)
  have t2 := take_some (at_ := 0) (by omega) (fullR_leastK (n := 40) (i := a) (k := b) (by omega) (by omega))
  have u2 := fullR_stepK (at_ := 0) (n := 40) (i := a) (k := b) (by omega) (by omega)
  have v2 := fullR_back (at_ := 0) (n := 40) (i := a) (k := b) (by omega) (by omega)
  have n1 := fullR_count (n := 40) (i := a) (by omega)
  have n2 := fullR_count (n := 40) (i := a + b) (by omega)
  rw [Nat.zero_add] at u1
  simp only [Int.zero_add] at t1 u1 t2 u2 v2
  have w1 : IntKind.i64.wrap (40 - (a : Int)) = 40 - a := wI (by omega) (by omega)
  have w2 : IntKind.i64.wrap (40 - (a : Int) - b) = 40 - a - b := wI (by omega) (by omega)
  have x1 : (((40 - a : Nat)) : Int) = 40 - (a : Int) := by omega
  have x2 : (((40 - (a + b) : Nat)) : Int) = 40 - (a : Int) - b := by omega
  simp
  refine CallGoal.same begun_ok ?_
  simp [c1, c2, c3, c4]
  refine CallGoal.same (new_ok (at_ := 0) (n := 40) (by omega) (by omega)) ?_
  rw [← s1]
  simp
  refine CallGoal.same (take_ok (at_ := 0) (n := (a : Int)) (fr := fullR 40 0) (by omega) (by omega) (by decide)) ?_
  rw [t1.1, t1.2.1]
  simp only [Int.natCast_zero] at u1 ⊢
  rw [u1]
  simp [room]
  refine CallGoal.same (copy_ok (at_ := 0) (fr := fullR 40 a) (by omega) (by omega)) ?_
  simp [room]
  refine CallGoal.same (take_ok (at_ := 0) (n := (b : Int)) (fr := fullR 40 a) (by omega) (by omega) (by omega)) ?_
  rw [t2.1, t2.2.1, u2]
  simp [room]
  refine CallGoal.same (take_ok (at_ := 0) (n := (b : Int)) (fr := fullR 40 a) (by omega) (by omega) (by omega)) ?_
  rw [t2.1, t2.2.1, u2]
  simp [room]
  refine CallGoal.same (give_ok (at_ := 0) (a := (a : Int)) (l := (b : Int)) (fr := fullR 40 (a + b)) (by omega) (by omega) (by omega) (by omega)) ?_
  rw [v2.1, v2.2]
  simp [room]
  refine CallGoal.same (free_ok (at_ := 0) (fr := fullR 40 (a + b)) (by omega) (by omega) (by omega)) ?_
  rw [n2, x2]
  simp [room, w1, w2]
  refine CallGoal.same (free_ok (at_ := 0) (fr := fullR 40 a) (by omega) (by omega) (by omega)) ?_
  rw [n1, x1]
  simp [room, w1, w2]
  exact .keep (by simp) (.refl _) (by simp) (by simp) (by simp) (by simp)
