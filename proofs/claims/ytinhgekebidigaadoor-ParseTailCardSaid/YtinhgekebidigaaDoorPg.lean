/- Part of the proof: contracts of the functions, walked by the D-machine. No condition. -/
import Derived.Test.YtinhgekebidigaaDoorPc
set_option linter.unusedSimpArgs false
set_option linter.unusedVariables false
set_option maxHeartbeats 4000000
namespace Go.Proofs.Dm
open Go Go.Proofs Go.Proofs.Tryd Go.Proofs.Dm.Sc
namespace Pp
attribute [local simp] pbox encT encN encNs takes handsOn isTmp Op.operands Call.operands
def tokensB (F : PS → Option (Nd × PS)) : Option (Nd × Int) :=
  (F ⟨0, 0, -1⟩).bind fun r => if decide (0 ≤ r.2.fault) then some (.mk 0 0 [], r.2.fault) else some (r.1, -1)
theorem tokens_ok {W0 nb l F nd k} (hF : HN ⟨Tryd.prog, W0, nb⟩ l 20 F) (h : tokensB F = some (nd, k)) : DCalls ⟨Tryd.prog, W0, nb⟩ 14 [.p (.sl 5 (l.map encT))] [] (.tup [.agg ((encN nd).map .p), i64 k]) [] := by
  unfold tokensB at h
  obtain ⟨⟨⟨k1, t1, ks1⟩, p1⟩, h1, h⟩ := Option.bind_eq_some_iff.1 h
  try dsimp only at h1 h
  refine dcalls_end Tryd.func14 rfl (by kernel_rfl) 22 Tryd.ntmps14 #[.cell 2 26, .tmp 3] rfl (Nat.le_of_ble_eq_true rfl) ?_
  simp
  refine CallGoal.same (hF h1) ?_
  try simp
  cases g1 : decide (0 ≤ p1.fault) with
  | true =>
    simp only [g1, if_true] at h
    simp only [Option.some.injEq, Prod.mk.injEq] at h
    obtain ⟨rfl, rfl⟩ := h
    simp
    refine drawWp.intro [(4, 5)] [4, 5] mixed (by kernel_rfl) (by kernel_rfl) (by kernel_rfl) ?_
    try simp
    refine ⟨by simp [pairsOK, pairsOK2, compatAdd, compatCA, compatSt, Dm.stoB, Dm.callB, Dm.adB, compatDyn, lowOK, allLt, labD, skips, guardD, looksG, guardSlot, looksD, goneD, eatsT, eats, goneL, rdD, wrD, simpleD, anyOwn, disj, ldD, ldOK, mvD], by simp [pairsOK, pairsOK2, compatAdd, compatCA, compatSt, Dm.stoB, Dm.callB, Dm.adB, compatDyn, lowOK, allLt, labD, skips, guardD, looksG, guardSlot, looksD, goneD, eatsT, eats, goneL, rdD, wrD, simpleD, anyOwn, disj, ldD, ldOK, mvD], ?_⟩
    try simp
    exact .keep (by simp) (.refl _) (by simp) (by simp) (by simp) (by simp)
  | false =>
    simp only [g1, Bool.false_eq_true, if_false] at h
    simp only [Option.some.injEq, Prod.mk.injEq] at h
    obtain ⟨rfl, rfl⟩ := h
    simp
    exact .keep (by simp) (.refl _) (by simp) (by simp) (by simp) (by simp)
end Pp
end Go.Proofs.Dm
