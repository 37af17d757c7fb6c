/- Part of the proof: contracts of the functions, walked by the D-machine. No condition. -/
import Derived.Test.YtinhgekebidigaaGreatDoorRa
set_option linter.unusedSimpArgs false
set_option linter.unusedVariables false
set_option maxHeartbeats 4000000
namespace Go.Proofs.Dm
open Go Go.Proofs Go.Proofs.Tryz Go.Proofs.Dm.Sc
namespace Rp
attribute [local simp] rbox encT encN encNs takes handsOn isTmp Op.operands Call.operands
def fiI (l : List Tok) (D : RM) (N : Nat) (rs : List Nd) (rp : RS) (m : Nat) (s : St) : Prop := ∃ (imp : Bool) (ks1 : List Nd) (ps1 : RS), fileL l D N m imp ks1 ps1 = some (rs, rp) ∧ s.hp = [rbox l ps1, [i64 0, i64 0, .own 35 3 []], [i64 1, i64 0, .own 35 3 (encNs ks1)]] ∧ s.tm 0 = .ref 0 0 ∧ s.tm 2 = .ref 1 0 ∧ s.tm 3 = .ref 2 0 ∧ s.tm 4 = .p (.bool imp)
def fiJ (l : List Tok) (rs : List Nd) (rp : RS) (s : St) : Prop := s.hp = [rbox l rp, [i64 0, i64 0, .own 35 3 []], [i64 1, i64 0, .own 35 3 (encNs rs)]] ∧ s.tm 0 = .ref 0 0 ∧ s.tm 2 = .ref 1 0 ∧ s.tm 3 = .ref 2 0
theorem fileR_ok {W0 nb l D N} (hD : HN ⟨Tryz.prog, W0, nb⟩ l 67 D) : HN ⟨Tryz.prog, W0, nb⟩ l 37 (fileR l D N) := by
  intro rs0 ⟨k0, t0, ks0⟩ rs' h
  unfold fileR at h
  obtain ⟨⟨n1, p1⟩, h1, h⟩ := Option.bind_eq_some_iff.1 h
  try dsimp only at h1 h
  obtain ⟨⟨n2, p2⟩, h2, h⟩ := Option.bind_eq_some_iff.1 h
  try dsimp only at h2 h
  obtain ⟨⟨n3, p3⟩, h3, h⟩ := Option.bind_eq_some_iff.1 h
  try dsimp only at h3 h
  obtain ⟨⟨rs, rp⟩, h4, h⟩ := Option.bind_eq_some_iff.1 h
  try dsimp only at h4 h
  simp only [Option.some.injEq, Prod.mk.injEq, Nd.mk.injEq] at h
  obtain ⟨⟨rfl, rfl, rfl⟩, rfl⟩ := h
  refine dcalls_end Tryz.func37 rfl (by kernel_rfl) 52 Tryz.ntmps37 #[.cell 2 35] rfl (Nat.le_of_ble_eq_true rfl) ?_
  simp
  refine CallGoal.same (leaf_nil) ?_
  try simp
  refine CallGoal.same (want_ok h1) ?_
  try simp
  refine drawWp.intro [(1, 3), (1, 4)] [3, 4] mixed (by kernel_rfl) (by kernel_rfl) (by kernel_rfl) ?_
  try simp
  refine CallGoal.same (wantK_ok h2) ?_
  try simp
  refine CallGoal.same (leaf_nil) ?_
  try simp
  refine ⟨by simp [pairsOK, pairsOK2, compatAdd, compatCA, compatSt, Dm.stoB, Dm.callB, Dm.adB, compatDyn, lowOK, allLt, labD, skips, guardD, looksG, guardSlot, looksD, goneD, eatsT, eats, goneL, rdD, wrD, simpleD, anyOwn, disj, ldD, ldOK, mvD], by simp [pairsOK, pairsOK2, compatAdd, compatCA, compatSt, Dm.stoB, Dm.callB, Dm.adB, compatDyn, lowOK, allLt, labD, skips, guardD, looksG, guardSlot, looksD, goneD, eatsT, eats, goneL, rdD, wrD, simpleD, anyOwn, disj, ldD, ldOK, mvD], ?_⟩
  try simp
  refine CallGoal.same (wantK_ok h3) ?_
  try simp
  refine LoopGoal.cut (fiJ l rs rp) ?_ ?_
  · refine ⟨fiI l D N rs rp, N, .here ⟨true, [.mk 2 n2 []], p3, h4, by simp, by simp, by simp, by simp, by simp⟩, ?_⟩
    rintro m ⟨tm, hp⟩ ⟨imp, ks1, ps1, g, e1, e3, e4, e5, e6⟩
    simp only at e1 e3 e4 e5 e6
    subst e1
    cases m with
    | zero => cases g
    | succ m =>
      simp only [fileL] at g
      simp [e3, e5, e6]
      cases g1 : decide (ps1.bad < 0) with
      | false =>
        simp only [g1, Bool.false_eq_true, if_false, Option.some.injEq, Prod.mk.injEq] at g
        obtain ⟨rfl, rfl⟩ := g
        simp [e3, e4, e5, e6]
        exact ⟨by simp, by simp [e3], by simp [e4], by simp [e5]⟩
      | true =>
        simp only [g1, if_true] at g
        obtain ⟨r1, g2, g⟩ := Option.bind_eq_some_iff.1 g
        obtain ⟨b1, g3, g⟩ := Option.bind_eq_some_iff.1 g
        simp [e3]
        refine CallGoal.same (semis_ok g2) ?_
        try simp [e3, e5, e6]
        refine CallGoal.same (kindQ_ok g3) ?_
        try simp [e3, e5, e6]
        cases b1 with
        | true =>
          simp only [if_true, Option.some.injEq, Prod.mk.injEq] at g
          obtain ⟨rfl, rfl⟩ := g
          simp [e3, e4, e5, e6]
          exact ⟨by simp, by simp [e3], by simp [e4], by simp [e5]⟩
        | false =>
          simp only [Bool.false_eq_true, if_false] at g
          obtain ⟨b2, g4, g⟩ := Option.bind_eq_some_iff.1 g
          cases imp with
          | false =>
            simp only [Bool.false_eq_true, if_false, Option.some.injEq] at g4
            subst g4
            simp only [Bool.false_eq_true, if_false] at g
            obtain ⟨⟨⟨k5, t5, ks5⟩, w5⟩, g5, g⟩ := Option.bind_eq_some_iff.1 g
            obtain ⟨ks', g6, g⟩ := Option.bind_eq_some_iff.1 g
            obtain ⟨⟨n9, w9⟩, g9, g⟩ := Option.bind_eq_some_iff.1 g
            obtain ⟨rfl, g7, g8⟩ := Pp.app_some g6
            dsimp only at g g5 g9
            try simp [e3, e5, e6]
            refine drawWp.intro [(1, 3)] [3] mixed (by kernel_rfl) (by kernel_rfl) (by kernel_rfl) ?_
            try simp
            try simp [e3, e5, e6]
            refine CallGoal.same (hD g5) ?_
            try simp [e3, e5, e6, g7, g8]
            refine ⟨by simp [pairsOK, pairsOK2, compatAdd, compatCA, compatSt, Dm.stoB, Dm.callB, Dm.adB, compatDyn, lowOK, allLt, labD, skips, guardD, looksG, guardSlot, looksD, goneD, eatsT, eats, goneL, rdD, wrD, simpleD, anyOwn, disj, ldD, ldOK, mvD, e3, e5], by simp [pairsOK, pairsOK2, compatAdd, compatCA, compatSt, Dm.stoB, Dm.callB, Dm.adB, compatDyn, lowOK, allLt, labD, skips, guardD, looksG, guardSlot, looksD, goneD, eatsT, eats, goneL, rdD, wrD, simpleD, anyOwn, disj, ldD, ldOK, mvD, e3, e5], ?_⟩
            try simp
            try simp [e3, e5, e6]
            refine CallGoal.same (wantK_ok g9) ?_
            try simp [e3, e5, e6]
            refine .same m (by omega) ⟨false, _, _, g, ?_⟩
            simp [e3, e4, e5, e6, encNs_append]
          | true =>
            simp only [if_true] at g4
            simp [e3, e5, e6]
            refine CallGoal.same (isW_ok g4) ?_
            try simp [e3, e5, e6]
            cases b2 with
            | false =>
              simp only [Bool.false_eq_true, if_false] at g
              obtain ⟨⟨⟨k5, t5, ks5⟩, w5⟩, g5, g⟩ := Option.bind_eq_some_iff.1 g
              obtain ⟨ks', g6, g⟩ := Option.bind_eq_some_iff.1 g
              obtain ⟨⟨n9, w9⟩, g9, g⟩ := Option.bind_eq_some_iff.1 g
              obtain ⟨rfl, g7, g8⟩ := Pp.app_some g6
              dsimp only at g g5 g9
              try simp [e3, e5, e6]
              refine drawWp.intro [(1, 3)] [3] mixed (by kernel_rfl) (by kernel_rfl) (by kernel_rfl) ?_
              try simp
              try simp [e3, e5, e6]
              refine CallGoal.same (hD g5) ?_
              try simp [e3, e5, e6, g7, g8]
              refine ⟨by simp [pairsOK, pairsOK2, compatAdd, compatCA, compatSt, Dm.stoB, Dm.callB, Dm.adB, compatDyn, lowOK, allLt, labD, skips, guardD, looksG, guardSlot, looksD, goneD, eatsT, eats, goneL, rdD, wrD, simpleD, anyOwn, disj, ldD, ldOK, mvD, e3, e5], by simp [pairsOK, pairsOK2, compatAdd, compatCA, compatSt, Dm.stoB, Dm.callB, Dm.adB, compatDyn, lowOK, allLt, labD, skips, guardD, looksG, guardSlot, looksD, goneD, eatsT, eats, goneL, rdD, wrD, simpleD, anyOwn, disj, ldD, ldOK, mvD, e3, e5], ?_⟩
              try simp
              try simp [e3, e5, e6]
              refine CallGoal.same (wantK_ok g9) ?_
              try simp [e3, e5, e6]
              refine .same m (by omega) ⟨false, _, _, g, ?_⟩
              simp [e3, e4, e5, e6, encNs_append]
            | true =>
              simp only [if_true] at g
              obtain ⟨⟨n5, w5⟩, g5, g⟩ := Option.bind_eq_some_iff.1 g
              obtain ⟨ks', g6, g⟩ := Option.bind_eq_some_iff.1 g
              obtain ⟨⟨n9, w9⟩, g9, g⟩ := Option.bind_eq_some_iff.1 g
              obtain ⟨rfl, g7, g8⟩ := Pp.app_some g6
              dsimp only at g g9
              simp [e3, e5, e6]
              refine CallGoal.same (next_ok) ?_
              try simp [e3, e5, e6]
              refine drawWp.intro [(1, 3), (1, 4)] [3, 4] mixed (by kernel_rfl) (by kernel_rfl) (by kernel_rfl) ?_
              try simp
              try simp [e3, e5, e6]
              refine CallGoal.same (wantK_ok g5) ?_
              try simp [e3, e5, e6]
              refine CallGoal.same (leaf_nil) ?_
              try simp [e3, e5, e6, g7, g8]
              refine ⟨by simp [pairsOK, pairsOK2, compatAdd, compatCA, compatSt, Dm.stoB, Dm.callB, Dm.adB, compatDyn, lowOK, allLt, labD, skips, guardD, looksG, guardSlot, looksD, goneD, eatsT, eats, goneL, rdD, wrD, simpleD, anyOwn, disj, ldD, ldOK, mvD, e3, e5], by simp [pairsOK, pairsOK2, compatAdd, compatCA, compatSt, Dm.stoB, Dm.callB, Dm.adB, compatDyn, lowOK, allLt, labD, skips, guardD, looksG, guardSlot, looksD, goneD, eatsT, eats, goneL, rdD, wrD, simpleD, anyOwn, disj, ldD, ldOK, mvD, e3, e5], ?_⟩
              try simp
              try simp [e3, e5, e6]
              refine CallGoal.same (wantK_ok g9) ?_
              try simp [e3, e5, e6]
              refine .same m (by omega) ⟨true, _, _, g, ?_⟩
              simp [e3, e4, e5, e6, encNs_append]
  rintro ⟨tm, hp⟩ ⟨e1, e3, e4, e5⟩
  simp only at e1 e3 e4 e5
  subst e1
  simp [e3, e4, e5]
  exact Pp.endE (by simp [e4]) (by simp) (by simp [e4]) (by simp [e4])
end Rp
end Go.Proofs.Dm

set_option linter.unusedSimpArgs false
set_option linter.unusedVariables false
set_option maxHeartbeats 4000000
namespace Go.Proofs.Dm
open Go Go.Proofs Go.Proofs.Tryz Go.Proofs.Dm.Sc
namespace Rp
attribute [local simp] rbox encT encN encNs takes handsOn isTmp Op.operands Call.operands
theorem parse_ok {W0 nb l F nd k} (hl : l ≠ []) (hF : HN ⟨Tryz.prog, W0, nb⟩ l 37 F) (h : parseR F = some (nd, k)) : DCalls ⟨Tryz.prog, W0, nb⟩ 21 [.p (.sl 5 (l.map encT))] [] (.tup [.agg ((encN nd).map .p), i64 k]) [] := by
  unfold parseR at h
  obtain ⟨⟨⟨k1, t1, ks1⟩, p1⟩, h1, h⟩ := Option.bind_eq_some_iff.1 h
  try dsimp only at h1 h
  have hl' : ((l.length : Int) == 0) = false := by
    have : l.length ≠ 0 := by simpa using hl
    simp; omega
  refine dcalls_end Tryz.func21 rfl (by kernel_rfl) 26 Tryz.ntmps21 #[.cell 2 35, .tmp 3] rfl (Nat.le_of_ble_eq_true rfl) ?_
  simp [hl, hl']
  refine CallGoal.same (hF h1) ?_
  try simp
  cases g1 : decide (0 ≤ p1.bad) with
  | true =>
    simp only [g1, if_true] at h
    simp only [Option.some.injEq, Prod.mk.injEq] at h
    obtain ⟨rfl, rfl⟩ := h
    simp
    refine drawWp.intro [(4, 5)] [4, 5] mixed (by kernel_rfl) (by kernel_rfl) (by kernel_rfl) ?_
    try simp
    refine ⟨by simp [pairsOK, pairsOK2, compatAdd, compatCA, compatSt, Dm.stoB, Dm.callB, Dm.adB, compatDyn, lowOK, allLt, labD, skips, guardD, looksG, guardSlot, looksD, goneD, eatsT, eats, goneL, rdD, wrD, simpleD, anyOwn, disj, ldD, ldOK, mvD], by simp [pairsOK, pairsOK2, compatAdd, compatCA, compatSt, Dm.stoB, Dm.callB, Dm.adB, compatDyn, lowOK, allLt, labD, skips, guardD, looksG, guardSlot, looksD, goneD, eatsT, eats, goneL, rdD, wrD, simpleD, anyOwn, disj, ldD, ldOK, mvD], ?_⟩
    try simp
    exact .keep (by simp) (.refl _) (by simp) (by simp) (by simp) (by simp)
  | false =>
    simp only [g1, Bool.false_eq_true, if_false] at h
    simp only [Option.some.injEq, Prod.mk.injEq] at h
    obtain ⟨rfl, rfl⟩ := h
    simp
    exact .keep (by simp) (.refl _) (by simp) (by simp) (by simp) (by simp)
theorem parse_nil {W0 nb} : DCalls ⟨Tryz.prog, W0, nb⟩ 21 [.p (.sl 5 [])] [] (.tup [.agg ((encN (.mk 0 0 [])).map .p), i64 0]) [] := by
  refine dcalls_end Tryz.func21 rfl (by kernel_rfl) 26 Tryz.ntmps21 #[.cell 2 35, .tmp 3] rfl (Nat.le_of_ble_eq_true rfl) ?_
  simp
  exact .keep (by simp) (.refl _) (by simp) (by simp) (by simp) (by simp)
end Rp
end Go.Proofs.Dm
