/- Part of the proof: contracts of the functions, walked by the D-machine. No condition. -/
import Derived.Test.YtinhgekebidigaaGreatDoorRd
import Derived.Test.YtinhgekebidigaaGreatDoorRe
import Derived.Test.YtinhgekebidigaaGreatDoorRf
import Derived.Test.YtinhgekebidigaaGreatDoorRg
import Derived.Test.YtinhgekebidigaaGreatDoorRh
import Derived.Test.YtinhgekebidigaaGreatDoorTe
set_option linter.unusedSimpArgs false
set_option linter.unusedVariables false
set_option maxHeartbeats 8000000
namespace Go.Proofs.Dm
open Go Go.Proofs Go.Proofs.Tryz Go.Proofs.Dm.Sc
namespace Rp
attribute [local simp] rbox encT encN encNs takes handsOn isTmp Op.operands Call.operands
structure RFok (C : Ctx) (l : List Tok) (F : RF) : Prop where
  unary : HN C l 107 F.unary
  block : HN C l 98 F.block
  ifs : HN C l 121 F.ifs
  stmt : HN C l 109 F.stmt
theorem RFok.step {W0 nb l F N} (h : RFok ⟨Tryz.prog, W0, nb⟩ l F) : RFok ⟨Tryz.prog, W0, nb⟩ l (stepR l N F) where
  unary := unary_ok h.unary (prim_ok (exprE_ok h.unary) (callR_ok (exprE_ok h.unary)))
  block := block_ok h.stmt
  ifs := ifs_ok (exprE_ok h.unary) h.block h.ifs
  stmt := stmtR_ok (vars_ok (exprE_ok h.unary)) (consts_ok (exprE_ok h.unary)) h.block h.ifs (fors_ok (exprE_ok h.unary) h.block) (simpleR_ok (exprE_ok h.unary) (fors_ok (exprE_ok h.unary) h.block)) (exprE_ok h.unary)
theorem rf_ok {W0 nb l N} : ∀ n, RFok ⟨Tryz.prog, W0, nb⟩ l (rf l N n)
  | 0 => ⟨fun {_ _ _} h => by simp [rf, noR] at h, fun {_ _ _} h => by simp [rf, noR] at h, fun {_ _ _} h => by simp [rf, noR] at h, fun {_ _ _} h => by simp [rf, noR] at h⟩
  | n + 1 => (rf_ok n).step
theorem fileRF_ok {W0 nb l N n} : HN ⟨Tryz.prog, W0, nb⟩ l 37 (fileRF l N (rf l N n)) :=
  fileR_ok (declR_ok (vars_ok (exprE_ok (rf_ok n).unary)) (consts_ok (exprE_ok (rf_ok n).unary)) structs_ok (funcs_ok (rf_ok n).block))
theorem text_ok {W0 nb} {s : ByteArray} (hs : s.size < 10000000) {F} {nd l k} (hl : (scanP s).1 ≠ [] ∨ 0 ≤ (scanP s).2.2) (hF : HN ⟨Tryz.prog, W0, nb⟩ (scanP s).1 37 F) (h : textOf (scanP s).1 (scanP s).2.2 (parseR F) = some (nd, l, k)) :
    DCalls ⟨Tryz.prog, W0, nb⟩ 13 [.p (.str s)] [] (.tup [.agg ((encN nd).map .p), .p (.sl 5 (l.map encT)), i64 k]) [] := by
  have ca := Rs.scan_ok (W0 := W0) (nb := nb) (s := s) hs
  obtain ⟨A, hA⟩ : ∃ A, scanP s = A := ⟨_, rfl⟩
  rw [hA] at ca h hF hl
  obtain ⟨x, xc, f⟩ := A
  simp only [Sc.toks, coms] at ca h hF hl
  unfold textOf at h
  refine dcalls_end Tryz.func13 rfl (by kernel_rfl) 35 Tryz.ntmps13 #[.cell 2 35, .tmp 3, .tmp 4] rfl (Nat.le_of_ble_eq_true rfl) ?_
  simp
  refine CallGoal.same ca ?_
  simp
  cases g1 : decide (0 ≤ f) with
  | true =>
    simp only [g1, if_true] at h
    simp only [Option.some.injEq, Prod.mk.injEq] at h
    obtain ⟨rfl, rfl, rfl⟩ := h
    simp
    exact .keep (by simp) (.refl _) (by simp) (by simp) (by simp) (by simp)
  | false =>
    have g1' : ¬ 0 ≤ f := by simpa using g1
    have hx : x ≠ [] := by
      rcases hl with q | q
      · exact q
      · exact absurd q g1'
    simp only [g1, Bool.false_eq_true, if_false] at h
    obtain ⟨⟨⟨k1, t1, ks1⟩, e⟩, h3, h⟩ := Option.bind_eq_some_iff.1 h
    try dsimp only at h3 h
    simp
    refine CallGoal.same (parse_ok hx hF h3) ?_
    try simp
    cases g2 : decide (0 ≤ e) with
    | true =>
      simp only [g2, if_true] at h
      obtain ⟨tok, j1, h⟩ := Option.bind_eq_some_iff.1 h
      try dsimp only at j1 h
      simp only [Option.some.injEq, Prod.mk.injEq] at h
      obtain ⟨rfl, rfl, rfl⟩ := h
      have g2' : 0 ≤ e := by simpa using g2
      simp
      refine drawWp.intro [(5, 6)] [5, 6] mixed (by kernel_rfl) (by kernel_rfl) (by kernel_rfl) ?_
      try simp
      try simp [j1, g2', encT]
      refine ⟨by simp [pairsOK, pairsOK2, compatAdd, compatCA, compatSt, Dm.stoB, Dm.callB, Dm.adB, compatDyn, lowOK, allLt, labD, skips, guardD, looksG, guardSlot, looksD, goneD, eatsT, eats, goneL, rdD, wrD, simpleD, anyOwn, disj, ldD, ldOK, mvD, j1, g2'], by simp [pairsOK, pairsOK2, compatAdd, compatCA, compatSt, Dm.stoB, Dm.callB, Dm.adB, compatDyn, lowOK, allLt, labD, skips, guardD, looksG, guardSlot, looksD, goneD, eatsT, eats, goneL, rdD, wrD, simpleD, anyOwn, disj, ldD, ldOK, mvD, j1, g2'], ?_⟩
      try simp
      try simp
      exact .keep (by simp) (.refl _) (by simp) (by simp) (by simp) (by simp)
    | false =>
      simp only [g2, Bool.false_eq_true, if_false] at h
      simp only [Option.some.injEq, Prod.mk.injEq] at h
      obtain ⟨rfl, rfl, rfl⟩ := h
      simp
      exact .keep (by simp) (.refl _) (by simp) (by simp) (by simp) (by simp)
end Rp
end Go.Proofs.Dm
