/- Part of the proof: contracts of the functions, walked by the D-machine. No condition. -/
import Derived.Test.YtinhgekebidigaaGreatDoorRa
import Derived.Test.YtinhgekebidigaaGreatDoorRc
set_option linter.unusedSimpArgs false
set_option linter.unusedVariables false
set_option maxHeartbeats 4000000
namespace Go.Proofs.Dm
open Go Go.Proofs Go.Proofs.Tryz Go.Proofs.Dm.Sc
namespace Rp
attribute [local simp] rbox encT encN encNs takes handsOn isTmp Op.operands Call.operands
def HC (C : Ctx) (l : List Tok) (K : Nd → RM) : Prop := ∀ {k t ks rs nd rs'}, K (.mk k t ks) rs = some (nd, rs') → DCalls C 127 [.ref 0 0, .agg [i64 k, i64 t, .p (.sl 3 (encNs ks))]] [rbox l rs] (.agg ((encN nd).map .p)) [rbox l rs']
def prJ (l : List Tok) (K : Nd → RM) (N : Nat) (r : Nd × RS) (s : St) : Prop := ∃ k t ks ps, primL l K N (.mk k t ks) ps = some r ∧ s.hp = [rbox l ps, [i64 0, i64 0, .own 35 3 []], [i64 k, i64 t, .p (.sl 3 (encNs ks))]] ∧ s.tm 0 = .ref 0 0 ∧ s.tm 2 = .ref 1 0 ∧ s.tm 3 = .ref 2 0
theorem prim_ok {W0 nb l E K N} (hE : HE ⟨Tryz.prog, W0, nb⟩ l E) (hK : HC ⟨Tryz.prog, W0, nb⟩ l K) : HN ⟨Tryz.prog, W0, nb⟩ l 120 (primR l E K N) := by
  intro rs ⟨k0, t0, ks0⟩ rs' h
  unfold primR at h
  refine dcalls_end Tryz.func120 rfl (by kernel_rfl) 74 Tryz.ntmps120 #[.cell 2 35] rfl (Nat.le_of_ble_eq_true rfl) ?_
  simp
  cases b0 : decide (0 ≤ rs.bad) with
  | true =>
    simp only [b0, if_true] at h
    simp only [Option.some.injEq, Prod.mk.injEq, Nd.mk.injEq] at h
    obtain ⟨⟨rfl, rfl, rfl⟩, rfl⟩ := h
    simp
    exact Pp.endE (by simp) (by simp) (by simp) (by simp)
  | false =>
    simp only [b0, Bool.false_eq_true, if_false] at h
    simp
    apply join (J := prJ l K N (.mk k0 t0 ks0, rs'))
    case main =>
      intro key
      obtain ⟨b1, h1, h⟩ := Option.bind_eq_some_iff.1 h
      try dsimp only at h1 h
      refine CallGoal.same (kindQ_ok h1) ?_
      try simp
      cases b1 with
      | true =>
        simp only [if_true] at h
        simp
        refine CallGoal.same (next_ok) ?_
        try simp
        refine CallGoal.same (leaf_nilF) ?_
        try simp
        exact key _ ⟨_, _, _, _, h, by simp, by simp, by simp, by simp⟩
      | false =>
        simp only [Bool.false_eq_true, if_false] at h
        simp
        obtain ⟨b2, h2, h⟩ := Option.bind_eq_some_iff.1 h
        try dsimp only at h2 h
        refine CallGoal.same (kindQ_ok h2) ?_
        try simp
        cases b2 with
        | true =>
          simp only [if_true] at h
          simp
          refine CallGoal.same (next_ok) ?_
          try simp
          refine CallGoal.same (leaf_nilF) ?_
          try simp
          exact key _ ⟨_, _, _, _, h, by simp, by simp, by simp, by simp⟩
        | false =>
          simp only [Bool.false_eq_true, if_false] at h
          simp
          obtain ⟨b3, h3, h⟩ := Option.bind_eq_some_iff.1 h
          try dsimp only at h3 h
          refine CallGoal.same (kindQ_ok h3) ?_
          try simp
          cases b3 with
          | true =>
            simp only [if_true] at h
            simp
            refine CallGoal.same (next_ok) ?_
            try simp
            refine CallGoal.same (leaf_nilF) ?_
            try simp
            exact key _ ⟨_, _, _, _, h, by simp, by simp, by simp, by simp⟩
          | false =>
            simp only [Bool.false_eq_true, if_false] at h
            simp
            obtain ⟨b4, h4, h⟩ := Option.bind_eq_some_iff.1 h
            try dsimp only at h4 h
            refine CallGoal.same (isW_ok h4) ?_
            try simp
            cases b4 with
            | false =>
              simp only [Bool.false_eq_true, if_false] at h
              simp only [Option.some.injEq, Prod.mk.injEq, Nd.mk.injEq] at h
              obtain ⟨⟨rfl, rfl, rfl⟩, rfl⟩ := h
              simp
              refine CallGoal.same (fail_ok) ?_
              try simp
              exact Pp.endE (by simp) (by simp) (by simp) (by simp)
            | true =>
              simp only [if_true] at h
              obtain ⟨⟨⟨k5, t5, ks5⟩, p5⟩, h5, h⟩ := Option.bind_eq_some_iff.1 h
              try dsimp only at h5 h
              obtain ⟨⟨n6, p6⟩, h6, h⟩ := Option.bind_eq_some_iff.1 h
              try dsimp only at h6 h
              simp
              refine CallGoal.same (openR_ok) ?_
              try simp
              refine CallGoal.same (next_ok) ?_
              try simp
              refine CallGoal.same (hE h5) ?_
              try simp
              refine CallGoal.intro (leaf_pF (by simp) (by simp)) (.cons (.refl _) (.cons (.refl _) (.cons (.fr _ _ _) .nil))) ?_
              try simp
              refine CallGoal.same (want_ok h6) ?_
              try simp
              refine CallGoal.same (shut_ok) ?_
              try simp
              exact key _ ⟨_, _, _, _, h, by simp, by simp, by simp, by simp⟩
    case key =>
      rintro ⟨tm, hp⟩ ⟨k1, t1, ks1, p1, h, e1, e3, e4, e5⟩
      simp only at e1 e3 e4 e5
      subst e1
      simp [e3]
      refine ⟨fun m s => prJ l K m (.mk k0 t0 ks0, rs') s, N, .here ⟨k1, t1, ks1, p1, h, by simp, by simp [e3], by simp [e4], by simp [e5]⟩, ?_⟩
      rintro m ⟨tm, hp⟩ ⟨kx, tx, ksx, ps, h, e1, e3, e4, e5⟩
      simp only at e1 e3 e4 e5
      subst e1
      cases m with
      | zero => cases h
      | succ m =>
        simp only [primL] at h
        simp [e3, e5]
        cases q1 : decide (ps.bad < 0) with
        | false =>
          simp only [q1, Bool.false_eq_true, if_false] at h
          simp only [Option.some.injEq, Prod.mk.injEq, Nd.mk.injEq] at h
          obtain ⟨⟨rfl, rfl, rfl⟩, rfl⟩ := h
          simp [e4, e5]
          exact .keep (by simp [e4]) (.refl _) (by simp) (by simp [e4]) (by simp [e4]) (by simp [e4])
        | true =>
          simp only [q1, if_true] at h
          obtain ⟨b, h2, h⟩ := Option.bind_eq_some_iff.1 h
          try dsimp only at h2 h
          obtain ⟨c, h3, h⟩ := Option.bind_eq_some_iff.1 h
          try dsimp only at h3 h
          simp [e3]
          refine CallGoal.same (isW_ok h2) ?_
          try simp [e3, e5]
          cases b with
          | true =>
            simp [e3, e5]
            refine CallGoal.same (isW_ok h3) ?_
            try simp [e3, e5]
            cases c with
            | true =>
              simp only [if_true] at h
              obtain ⟨⟨n7, p7⟩, h7, h⟩ := Option.bind_eq_some_iff.1 h
              try dsimp only at h7 h
              try simp [e3, e5]
              refine CallGoal.same (next_ok) ?_
              try simp [e3, e5]
              refine drawWp.intro [(1, 2)] [2] mixed (by kernel_rfl) (by kernel_rfl) (by kernel_rfl) ?_
              try simp
              try simp [e3, e5]
              refine CallGoal.same (wantK_ok h7) ?_
              try simp [e3, e5]
              refine CallGoal.intro (leaf_pF (by simp) (by simp)) (.cons (.refl _) (.cons (.refl _) (.cons (.fr _ _ _) .nil))) ?_
              try simp [e3, e5]
              refine ⟨by simp [pairsOK, pairsOK2, compatAdd, compatCA, compatSt, Dm.stoB, Dm.callB, Dm.adB, compatDyn, lowOK, allLt, labD, skips, guardD, looksG, guardSlot, looksD, goneD, eatsT, eats, goneL, rdD, wrD, simpleD, anyOwn, disj, ldD, ldOK, mvD, e3, e5], by simp [pairsOK, pairsOK2, compatAdd, compatCA, compatSt, Dm.stoB, Dm.callB, Dm.adB, compatDyn, lowOK, allLt, labD, skips, guardD, looksG, guardSlot, looksD, goneD, eatsT, eats, goneL, rdD, wrD, simpleD, anyOwn, disj, ldD, ldOK, mvD, e3, e5], ?_⟩
              try simp
              try simp [e3, e5]
              refine .same m (by omega) ⟨_, _, _, _, h, ?_⟩
              simp [e3, e4, e5]
            | false =>
              simp only [Bool.false_eq_true, if_false, if_true] at h
              obtain ⟨⟨⟨k7, t7, ks7⟩, p7⟩, h7, h⟩ := Option.bind_eq_some_iff.1 h
              try dsimp only at h7 h
              simp [e3, e5]
              refine CallGoal.same (hK h7) ?_
              try simp [e3, e5]
              refine .same m (by omega) ⟨_, _, _, _, h, ?_⟩
              simp [e3, e4, e5]
          | false =>
            simp [e3, e5]
            refine CallGoal.same (isW_ok h3) ?_
            try simp [e3, e5]
            cases c with
            | true =>
              simp only [if_true] at h
              simp [e3, e5]
              refine CallGoal.same (isW_ok h3) ?_
              try simp [e3, e5]
              obtain ⟨⟨n7, p7⟩, h7, h⟩ := Option.bind_eq_some_iff.1 h
              try dsimp only at h7 h
              try simp [e3, e5]
              refine CallGoal.same (next_ok) ?_
              try simp [e3, e5]
              refine drawWp.intro [(1, 2)] [2] mixed (by kernel_rfl) (by kernel_rfl) (by kernel_rfl) ?_
              try simp
              try simp [e3, e5]
              refine CallGoal.same (wantK_ok h7) ?_
              try simp [e3, e5]
              refine CallGoal.intro (leaf_pF (by simp) (by simp)) (.cons (.refl _) (.cons (.refl _) (.cons (.fr _ _ _) .nil))) ?_
              try simp [e3, e5]
              refine ⟨by simp [pairsOK, pairsOK2, compatAdd, compatCA, compatSt, Dm.stoB, Dm.callB, Dm.adB, compatDyn, lowOK, allLt, labD, skips, guardD, looksG, guardSlot, looksD, goneD, eatsT, eats, goneL, rdD, wrD, simpleD, anyOwn, disj, ldD, ldOK, mvD, e3, e5], by simp [pairsOK, pairsOK2, compatAdd, compatCA, compatSt, Dm.stoB, Dm.callB, Dm.adB, compatDyn, lowOK, allLt, labD, skips, guardD, looksG, guardSlot, looksD, goneD, eatsT, eats, goneL, rdD, wrD, simpleD, anyOwn, disj, ldD, ldOK, mvD, e3, e5], ?_⟩
              try simp
              try simp [e3, e5]
              refine .same m (by omega) ⟨_, _, _, _, h, ?_⟩
              simp [e3, e4, e5]
            | false =>
              simp only [Bool.false_eq_true, if_false] at h
              simp only [Option.some.injEq, Prod.mk.injEq, Nd.mk.injEq] at h
              obtain ⟨⟨rfl, rfl, rfl⟩, rfl⟩ := h
              simp [e4, e5]
              exact .keep (by simp [e4]) (.refl _) (by simp) (by simp [e4]) (by simp [e4]) (by simp [e4])
end Rp
end Go.Proofs.Dm

set_option linter.unusedSimpArgs false
set_option linter.unusedVariables false
set_option maxHeartbeats 4000000
namespace Go.Proofs.Dm
open Go Go.Proofs Go.Proofs.Tryz Go.Proofs.Dm.Sc
namespace Rp
attribute [local simp] rbox encT encN encNs takes handsOn isTmp Op.operands Call.operands
def caI (l : List Tok) (E : Int → RM) (x : List DV) (tok : Int) (rs : List Nd) (rp : RS) (m : Nat) (s : St) : Prop := ∃ (first : Bool) (ks1 : List Nd) (ps1 : RS), callL l E m first ks1 ps1 = some (rs, rp) ∧ s.hp = [rbox l ps1, x, [i64 0, i64 0, .own 35 3 []], [i64 26, i64 tok, .own 35 3 (encNs ks1)]] ∧ s.tm 0 = .ref 0 0 ∧ s.tm 4 = .ref 2 0 ∧ s.tm 5 = .ref 3 0 ∧ s.tm 6 = .p (.bool first)
def caJ (l : List Tok) (x : List DV) (tok : Int) (rs : List Nd) (rp : RS) (s : St) : Prop := s.hp = [rbox l rp, x, [i64 0, i64 0, .own 35 3 []], [i64 26, i64 tok, .own 35 3 (encNs rs)]] ∧ s.tm 0 = .ref 0 0 ∧ s.tm 4 = .ref 2 0 ∧ s.tm 5 = .ref 3 0
theorem callR_ok {W0 nb l E N} (hE : HE ⟨Tryz.prog, W0, nb⟩ l E) : HC ⟨Tryz.prog, W0, nb⟩ l (callR l E N) := by
  intro k t ks ps ⟨k0, t0, ks0⟩ ps' h
  unfold callR at h
  obtain ⟨⟨rs, rp⟩, h1, h⟩ := Option.bind_eq_some_iff.1 h
  try dsimp only at h1 h
  obtain ⟨⟨n2, p2⟩, h2, h⟩ := Option.bind_eq_some_iff.1 h
  try dsimp only at h2 h
  simp only [Option.some.injEq, Prod.mk.injEq, Nd.mk.injEq] at h
  obtain ⟨⟨rfl, rfl, rfl⟩, rfl⟩ := h
  refine dcalls_end Tryz.func127 rfl (by kernel_rfl) 45 Tryz.ntmps127 #[.cell 4 35] rfl (Nat.le_of_ble_eq_true rfl) ?_
  simp
  refine CallGoal.same (openR_ok) ?_
  try simp
  refine drawWp.intro2 [(1, 2), (1, 5), (4, 5)] [2] mixed (by kernel_rfl) (by kernel_rfl) (by kernel_rfl) ?_
  try simp
  refine CallGoal.same (next_ok) ?_
  try simp
  refine CallGoal.intro (leaf_p (by simp) (by simp)) (.cons (.refl _) (.cons (.refl _) (.cons (.fr _ _ _) .nil))) ?_
  try simp
  refine ⟨by simp [pairsOK, pairsOK2, compatAdd, compatCA, compatSt, Dm.stoB, Dm.callB, Dm.adB, compatDyn, lowOK, allLt, labD, skips, guardD, looksG, guardSlot, looksD, goneD, eatsT, eats, goneL, rdD, wrD, simpleD, anyOwn, disj, ldD, ldOK, mvD], by simp [pairsOK, pairsOK2, compatAdd, compatCA, compatSt, Dm.stoB, Dm.callB, Dm.adB, compatDyn, lowOK, allLt, labD, skips, guardD, looksG, guardSlot, looksD, goneD, eatsT, eats, goneL, rdD, wrD, simpleD, anyOwn, disj, ldD, ldOK, mvD], by simp, ?_⟩
  try simp
  refine LoopGoal.cut (caJ l [i64 k, i64 t, .p (.sl 3 (encNs ks))] (next l (openR ps)).1 rs rp) ?_ ?_
  · refine ⟨caI l E [i64 k, i64 t, .p (.sl 3 (encNs ks))] (next l (openR ps)).1 rs rp, N, .here ⟨true, [.mk k t ks], _, h1, by simp, by simp, by simp, by simp, by simp⟩, ?_⟩
    rintro m ⟨tm, hp⟩ ⟨first, ks1, ps1, g, e1, e3, e4, e5, e6⟩
    simp only at e1 e3 e4 e5 e6
    subst e1
    cases m with
    | zero => cases g
    | succ m =>
      simp only [callL] at g
      simp [e3, e5, e6]
      cases g1 : decide (ps1.bad < 0) with
      | false =>
        simp only [g1, Bool.false_eq_true, if_false, Option.some.injEq, Prod.mk.injEq] at g
        obtain ⟨rfl, rfl⟩ := g
        simp [e3, e4, e5, e6]
        exact ⟨by simp, by simp [e3], by simp [e4], by simp [e5]⟩
      | true =>
        simp only [g1, if_true] at g
        obtain ⟨b1, g2, g⟩ := Option.bind_eq_some_iff.1 g
        cases first with
        | true =>
          simp [e3, e6]
          refine CallGoal.same (isW_ok g2) ?_
          try simp [e3, e5, e6]
          cases b1 with
          | true =>
            simp only [if_true, Option.some.injEq, Prod.mk.injEq] at g
            obtain ⟨rfl, rfl⟩ := g
            simp [e3, e4, e5, e6]
            exact ⟨by simp, by simp [e3], by simp [e4], by simp [e5]⟩
          | false =>
            simp only [Bool.false_eq_true, if_false, if_true] at g
            obtain ⟨⟨⟨k4, t4, ks4⟩, q4⟩, g5, g⟩ := Option.bind_eq_some_iff.1 g
            obtain ⟨ks', g6, g⟩ := Option.bind_eq_some_iff.1 g
            obtain ⟨rfl, g7, g8⟩ := Pp.app_some g6
            dsimp only at g g5
            simp [e3, e6]
            refine drawWp.intro [(1, 3)] [3] mixed (by kernel_rfl) (by kernel_rfl) (by kernel_rfl) ?_
            try simp
            try simp [e3, e5]
            refine CallGoal.same (hE g5) ?_
            try simp [e3, e5, e6, g7, g8]
            refine ⟨by simp [pairsOK, pairsOK2, compatAdd, compatCA, compatSt, Dm.stoB, Dm.callB, Dm.adB, compatDyn, lowOK, allLt, labD, skips, guardD, looksG, guardSlot, looksD, goneD, eatsT, eats, goneL, rdD, wrD, simpleD, anyOwn, disj, ldD, ldOK, mvD, e3, e5], by simp [pairsOK, pairsOK2, compatAdd, compatCA, compatSt, Dm.stoB, Dm.callB, Dm.adB, compatDyn, lowOK, allLt, labD, skips, guardD, looksG, guardSlot, looksD, goneD, eatsT, eats, goneL, rdD, wrD, simpleD, anyOwn, disj, ldD, ldOK, mvD, e3, e5], ?_⟩
            try simp
            try simp [e3, e5, e6]
            refine .same m (by omega) ⟨false, _, _, g, ?_⟩
            simp [e3, e4, e5, e6, encNs_append]
        | false =>
          simp [e3, e6]
          refine CallGoal.same (isW_ok g2) ?_
          try simp [e3, e5, e6]
          cases b1 with
          | true =>
            simp only [if_true, Option.some.injEq, Prod.mk.injEq] at g
            obtain ⟨rfl, rfl⟩ := g
            simp [e3, e4, e5, e6]
            exact ⟨by simp, by simp [e3], by simp [e4], by simp [e5]⟩
          | false =>
            simp only [Bool.false_eq_true, if_false] at g
            obtain ⟨⟨n9, w9⟩, g9, g⟩ := Option.bind_eq_some_iff.1 g
            obtain ⟨⟨⟨k4, t4, ks4⟩, q4⟩, g5, g⟩ := Option.bind_eq_some_iff.1 g
            obtain ⟨ks', g6, g⟩ := Option.bind_eq_some_iff.1 g
            obtain ⟨rfl, g7, g8⟩ := Pp.app_some g6
            dsimp only at g g5
            simp [e3, e6]
            refine CallGoal.same (want_ok g9) ?_
            try simp [e3, e5, e6]
            refine drawWp.intro [(1, 3)] [3] mixed (by kernel_rfl) (by kernel_rfl) (by kernel_rfl) ?_
            try simp
            try simp [e3, e5]
            refine CallGoal.same (hE g5) ?_
            try simp [e3, e5, e6, g7, g8]
            refine ⟨by simp [pairsOK, pairsOK2, compatAdd, compatCA, compatSt, Dm.stoB, Dm.callB, Dm.adB, compatDyn, lowOK, allLt, labD, skips, guardD, looksG, guardSlot, looksD, goneD, eatsT, eats, goneL, rdD, wrD, simpleD, anyOwn, disj, ldD, ldOK, mvD, e3, e5], by simp [pairsOK, pairsOK2, compatAdd, compatCA, compatSt, Dm.stoB, Dm.callB, Dm.adB, compatDyn, lowOK, allLt, labD, skips, guardD, looksG, guardSlot, looksD, goneD, eatsT, eats, goneL, rdD, wrD, simpleD, anyOwn, disj, ldD, ldOK, mvD, e3, e5], ?_⟩
            try simp
            try simp [e3, e5, e6]
            refine .same m (by omega) ⟨false, _, _, g, ?_⟩
            simp [e3, e4, e5, e6, encNs_append]
  rintro ⟨tm, hp⟩ ⟨e1, e3, e4, e5⟩
  simp only at e1 e3 e4 e5
  subst e1
  simp [e3]
  refine CallGoal.same (want_ok h2) ?_
  try simp [e3, e5]
  refine CallGoal.same (shut_ok) ?_
  try simp [e3, e4, e5]
  exact Pp.endE (by simp [e4]) (by simp) (by simp [e4]) (by simp [e4])
end Rp
end Go.Proofs.Dm
