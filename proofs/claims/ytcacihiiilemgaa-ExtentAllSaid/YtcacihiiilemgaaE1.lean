/- Part of the proof: contracts of the functions, walked by the D-machine. No condition. -/
import Derived.Test.YtcacihiiilemgaaEF
set_option linter.unusedSimpArgs false
set_option linter.unusedVariables false
namespace Go.Proofs.Dm
open Go Go.Proofs Go.Proofs.Try
abbrev i64 (n : Int) : DV := .p (.int .i64 n)
abbrev u64 (n : Int) : DV := .p (.int .u64 n)
abbrev bl (b : Bool) : DV := .p (.bool b)
abbrev w64 (n : Int) : Int := IntKind.i64.wrap n
theorem wI {x : Int} (h1 : -9223372036854775808 ≤ x) (h2 : x ≤ 9223372036854775807) : IntKind.i64.wrap x = x := by
  simp only [IntKind.wrap, IntKind.min, IntKind.max, IntKind.bits, IntKind.signed]
  simp
  omega
theorem wU {x : Int} (h1 : 0 ≤ x) (h2 : x ≤ 18446744073709551615) : IntKind.u64.wrap x = x := by
  simp only [IntKind.wrap, IntKind.min, IntKind.max, IntKind.bits, IntKind.signed]
  simp
  omega
theorem and_mask {n : Int} (h1 : 0 ≤ n) (h2 : n ≤ 4294967295) : ((n % 2 ^ 64).toNat &&& 4294967295 % 2 ^ 64) = n.toNat := by
  obtain ⟨k, rfl⟩ := Int.eq_ofNat_of_zero_le h1
  have e4 : (4294967295 % 2 ^ 64 : Nat) = 2 ^ 32 - 1 := by decide
  rw [e4, Nat.and_two_pow_sub_one_eq_mod]
  omega
theorem mul64_ok {W0 nb} {n : Int} (h1 : 0 ≤ n) (h2 : n ≤ 1000000) : DCalls ⟨Try.prog, W0, nb⟩ 24 [u64 1, u64 n] [] (.tup [u64 0, u64 n]) [] := by
  refine dcalls_end Try.func24 rfl (by kernel_rfl) 51 Try.ntmps24 #[.tmp 4, .tmp 5] rfl (Nat.le_of_ble_eq_true rfl) ?_
  simp
  have e0 : IntKind.u64.bits = 64 := rfl
  have e1 := and_mask h1 (by omega)
  have e2 : (1 % 2 ^ 64 &&& 4294967295 % 2 ^ 64 : Nat) = 1 := by decide
  have e3 : n.fdiv (2 ^ min 32 64) = 0 := by
    obtain ⟨k, rfl⟩ := Int.eq_ofNat_of_zero_le h1
    rw [Int.fdiv_eq_ediv_of_nonneg _ (by decide)]
    exact Int.ediv_eq_zero_of_lt (by omega) (by simp; omega)
  have e4 : Int.fdiv 1 (2 ^ min 32 64) = 0 := by decide
  have e5 : Int.fdiv 0 (2 ^ min 32 64) = 0 := by decide
  have e6 : IntKind.u64.wrap 0 = 0 := by decide
  have e7 : IntKind.u64.wrap 1 = 1 := by decide
  have e8 : IntKind.u64.wrap n = n := wU h1 (by omega)
  have e9 : ((n.toNat : Nat) : Int) = n := by omega
  refine .keep (rr := .tup [u64 0, u64 n]) ?_ (.refl _) (by simp) (by simp) (by simp) (by simp)
  simp [e0]
  have f1 : ((n % 18446744073709551616).toNat &&& 4294967295) = n.toNat := e1
  have f3 : n.fdiv 4294967296 = 0 := e3
  simp [f1, f3, e5, e6, e7, e8, e9]
theorem mul_ok {W0 nb} {n : Int} (h1 : 0 ≤ n) (h2 : n ≤ 1000000) : DCalls ⟨Try.prog, W0, nb⟩ 21 [u64 1, u64 n] [] (.tup [u64 0, u64 n]) [] := by
  refine dcalls_end Try.func21 rfl (by kernel_rfl) 30 Try.ntmps21 #[.tmp 4, .tmp 5] rfl (Nat.le_of_ble_eq_true rfl) ?_
  simp
  refine CallGoal.same (mul64_ok h1 h2) ?_
  try simp
  exact .keep (by simp) (.refl _) (by simp) (by simp) (by simp) (by simp)
