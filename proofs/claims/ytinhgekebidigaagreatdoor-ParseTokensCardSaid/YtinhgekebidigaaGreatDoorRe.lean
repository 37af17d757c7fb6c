/- Part of the proof: contracts of the functions, walked by the D-machine. No condition. -/
import Derived.Test.YtinhgekebidigaaGreatDoorRa
set_option linter.unusedSimpArgs false
set_option linter.unusedVariables false
set_option maxHeartbeats 4000000
namespace Go.Proofs.Dm
open Go Go.Proofs Go.Proofs.Tryz Go.Proofs.Dm.Sc
namespace Rp
attribute [local simp] rbox encT encN encNs takes handsOn isTmp Op.operands Call.operands
theorem ahead_get {l : List Tok} {rs : RS} {t : Tok} (h : ahead l rs = some t) : 0 ≤ w64 (rs.at_ + 1) ∧ (w64 (rs.at_ + 1)).toNat < l.length ∧ l[(w64 (rs.at_ + 1)).toNat]? = some t := by
  unfold ahead at h
  split at h
  · rename_i h0
    refine ⟨h0, (List.getElem?_eq_some_iff.1 h).1, h⟩
  · cases h
theorem simpleR_ok {W0 nb l E L} (hE : HE ⟨Tryz.prog, W0, nb⟩ l E) (hL : HN ⟨Tryz.prog, W0, nb⟩ l 122 L) : HN ⟨Tryz.prog, W0, nb⟩ l 123 (simpleR l E L) := by
  intro rs ⟨k0, t0, ks0⟩ rs' h
  unfold simpleR at h
  obtain ⟨b, h1, h⟩ := Option.bind_eq_some_iff.1 h
  try dsimp only at h1 h
  refine dcalls_end Tryz.func123 rfl (by kernel_rfl) 99 Tryz.ntmps123 #[.cell 2 35] rfl (Nat.le_of_ble_eq_true rfl) ?_
  simp
  refine drawWp.intro [] [10, 25, 39] mixed (by kernel_rfl) (by kernel_rfl) (by kernel_rfl) ?_
  try simp
  refine CallGoal.same (kindQ_ok h1) ?_
  try simp
  cases b with
  | false =>
    simp only [Bool.false_eq_true, if_false] at h
    try simp (maxSteps := 4000000)
    refine ⟨by simp [pairsOK, pairsOK2, compatAdd, compatCA, compatSt, Dm.stoB, Dm.callB, Dm.adB, compatDyn, lowOK, allLt, labD, skips, guardD, looksG, guardSlot, looksD, goneD, eatsT, eats, goneL, rdD, wrD, simpleD, anyOwn, disj, ldD, ldOK, mvD], by simp [pairsOK, pairsOK2, compatAdd, compatCA, compatSt, Dm.stoB, Dm.callB, Dm.adB, compatDyn, lowOK, allLt, labD, skips, guardD, looksG, guardSlot, looksD, goneD, eatsT, eats, goneL, rdD, wrD, simpleD, anyOwn, disj, ldD, ldOK, mvD], ?_⟩
    try simp
    unfold restR at h
    obtain ⟨⟨⟨k4, t4, ks4⟩, r4⟩, h4, h⟩ := Option.bind_eq_some_iff.1 h
    try dsimp only at h4 h
    obtain ⟨q, h5, h⟩ := Option.bind_eq_some_iff.1 h
    try dsimp only at h5 h
    refine CallGoal.same (hE h4) ?_
    try simp
    try simp
    unfold isN at h5
    cases h6 : decide (r4.bad < 0) with
    | false =>
      simp only [h6, Bool.false_eq_true, if_false, Option.some.injEq] at h5
      subst h5
      simp only [Bool.false_eq_true, if_false] at h
      simp only [Option.some.injEq, Prod.mk.injEq, Nd.mk.injEq] at h
      obtain ⟨⟨rfl, rfl, rfl⟩, rfl⟩ := h
      simp [h6]
      refine CallGoal.intro (leaf_p (by simp) (by simp)) (.cons (.refl _) (.cons (.refl _) (.cons (.fr _ _ _) .nil))) ?_
      try simp
      exact Pp.endE (by simp) (by simp) (by simp) (by simp)
    | true =>
      simp only [h6, if_true] at h5
      simp [h6]
      refine CallGoal.same (isW_ok h5) ?_
      try simp [h6]
      cases q with
      | false =>
        simp only [Bool.false_eq_true, if_false] at h
        simp only [Option.some.injEq, Prod.mk.injEq, Nd.mk.injEq] at h
        obtain ⟨⟨rfl, rfl, rfl⟩, rfl⟩ := h
        simp
        refine CallGoal.intro (leaf_p (by simp) (by simp)) (.cons (.refl _) (.cons (.refl _) (.cons (.fr _ _ _) .nil))) ?_
        try simp
        exact Pp.endE (by simp) (by simp) (by simp) (by simp)
      | true =>
        simp only [if_true] at h
        obtain ⟨⟨⟨k7, t7, ks7⟩, r7⟩, h7, h⟩ := Option.bind_eq_some_iff.1 h
        try dsimp only at h7 h
        simp only [Option.some.injEq, Prod.mk.injEq, Nd.mk.injEq] at h
        obtain ⟨⟨rfl, rfl, rfl⟩, rfl⟩ := h
        simp
        refine CallGoal.same (next_ok) ?_
        try simp
        refine drawWp.intro [(1, 3)] [1, 3] mixed (by kernel_rfl) (by kernel_rfl) (by kernel_rfl) ?_
        try simp
        refine CallGoal.same (hE h7) ?_
        try simp
        refine CallGoal.intro (leaf_p (by simp) (by simp)) (.cons (.refl _) (.cons (.refl _) (.cons (.fr _ _ _) .nil))) ?_
        try simp
        refine ⟨by simp [pairsOK, pairsOK2, compatAdd, compatCA, compatSt, Dm.stoB, Dm.callB, Dm.adB, compatDyn, lowOK, allLt, labD, skips, guardD, looksG, guardSlot, looksD, goneD, eatsT, eats, goneL, rdD, wrD, simpleD, anyOwn, disj, ldD, ldOK, mvD], by simp [pairsOK, pairsOK2, compatAdd, compatCA, compatSt, Dm.stoB, Dm.callB, Dm.adB, compatDyn, lowOK, allLt, labD, skips, guardD, looksG, guardSlot, looksD, goneD, eatsT, eats, goneL, rdD, wrD, simpleD, anyOwn, disj, ldD, ldOK, mvD], ?_⟩
        try simp
        exact Pp.endE (by simp) (by simp) (by simp) (by simp)
  | true =>
    simp only [if_true] at h
    obtain ⟨t, h2, h⟩ := Option.bind_eq_some_iff.1 h
    try dsimp only at h2 h
    obtain ⟨a1, a2, a3⟩ := ahead_get h2
    obtain ⟨a4, a5⟩ := List.getElem?_eq_some_iff.1 a3
    simp only [w64] at a1 a2 a4 a5
    simp [a1, a2, a5]
    unfold isAss at h
    cases b4 : t.kind == 4 with
    | false =>
      simp only [b4, Bool.false_and, Bool.false_eq_true, if_false] at h
      try simp (maxSteps := 4000000) [b4]
      refine ⟨by simp [pairsOK, pairsOK2, compatAdd, compatCA, compatSt, Dm.stoB, Dm.callB, Dm.adB, compatDyn, lowOK, allLt, labD, skips, guardD, looksG, guardSlot, looksD, goneD, eatsT, eats, goneL, rdD, wrD, simpleD, anyOwn, disj, ldD, ldOK, mvD], by simp [pairsOK, pairsOK2, compatAdd, compatCA, compatSt, Dm.stoB, Dm.callB, Dm.adB, compatDyn, lowOK, allLt, labD, skips, guardD, looksG, guardSlot, looksD, goneD, eatsT, eats, goneL, rdD, wrD, simpleD, anyOwn, disj, ldD, ldOK, mvD], ?_⟩
      try simp
      unfold restR at h
      obtain ⟨⟨⟨k4, t4, ks4⟩, r4⟩, h4, h⟩ := Option.bind_eq_some_iff.1 h
      try dsimp only at h4 h
      obtain ⟨q, h5, h⟩ := Option.bind_eq_some_iff.1 h
      try dsimp only at h5 h
      refine CallGoal.same (hE h4) ?_
      try simp
      try simp
      unfold isN at h5
      cases h6 : decide (r4.bad < 0) with
      | false =>
        simp only [h6, Bool.false_eq_true, if_false, Option.some.injEq] at h5
        subst h5
        simp only [Bool.false_eq_true, if_false] at h
        simp only [Option.some.injEq, Prod.mk.injEq, Nd.mk.injEq] at h
        obtain ⟨⟨rfl, rfl, rfl⟩, rfl⟩ := h
        simp [h6]
        refine CallGoal.intro (leaf_p (by simp) (by simp)) (.cons (.refl _) (.cons (.refl _) (.cons (.fr _ _ _) .nil))) ?_
        try simp
        exact Pp.endE (by simp) (by simp) (by simp) (by simp)
      | true =>
        simp only [h6, if_true] at h5
        simp [h6]
        refine CallGoal.same (isW_ok h5) ?_
        try simp [h6]
        cases q with
        | false =>
          simp only [Bool.false_eq_true, if_false] at h
          simp only [Option.some.injEq, Prod.mk.injEq, Nd.mk.injEq] at h
          obtain ⟨⟨rfl, rfl, rfl⟩, rfl⟩ := h
          simp
          refine CallGoal.intro (leaf_p (by simp) (by simp)) (.cons (.refl _) (.cons (.refl _) (.cons (.fr _ _ _) .nil))) ?_
          try simp
          exact Pp.endE (by simp) (by simp) (by simp) (by simp)
        | true =>
          simp only [if_true] at h
          obtain ⟨⟨⟨k7, t7, ks7⟩, r7⟩, h7, h⟩ := Option.bind_eq_some_iff.1 h
          try dsimp only at h7 h
          simp only [Option.some.injEq, Prod.mk.injEq, Nd.mk.injEq] at h
          obtain ⟨⟨rfl, rfl, rfl⟩, rfl⟩ := h
          simp
          refine CallGoal.same (next_ok) ?_
          try simp
          refine drawWp.intro [(1, 3)] [1, 3] mixed (by kernel_rfl) (by kernel_rfl) (by kernel_rfl) ?_
          try simp
          refine CallGoal.same (hE h7) ?_
          try simp
          refine CallGoal.intro (leaf_p (by simp) (by simp)) (.cons (.refl _) (.cons (.refl _) (.cons (.fr _ _ _) .nil))) ?_
          try simp
          refine ⟨by simp [pairsOK, pairsOK2, compatAdd, compatCA, compatSt, Dm.stoB, Dm.callB, Dm.adB, compatDyn, lowOK, allLt, labD, skips, guardD, looksG, guardSlot, looksD, goneD, eatsT, eats, goneL, rdD, wrD, simpleD, anyOwn, disj, ldD, ldOK, mvD], by simp [pairsOK, pairsOK2, compatAdd, compatCA, compatSt, Dm.stoB, Dm.callB, Dm.adB, compatDyn, lowOK, allLt, labD, skips, guardD, looksG, guardSlot, looksD, goneD, eatsT, eats, goneL, rdD, wrD, simpleD, anyOwn, disj, ldD, ldOK, mvD], ?_⟩
          try simp
          exact Pp.endE (by simp) (by simp) (by simp) (by simp)
    | true =>
      simp only [b4, Bool.true_and] at h
      cases b5 : t.text.toList == [58, 61] with
      | true =>
        simp only [b5, Bool.true_or, if_true] at h
        try simp (maxSteps := 4000000) [b4, b5, a1, a2, a5]
        refine ⟨by simp [pairsOK, pairsOK2, compatAdd, compatCA, compatSt, Dm.stoB, Dm.callB, Dm.adB, compatDyn, lowOK, allLt, labD, skips, guardD, looksG, guardSlot, looksD, goneD, eatsT, eats, goneL, rdD, wrD, simpleD, anyOwn, disj, ldD, ldOK, mvD], by simp [pairsOK, pairsOK2, compatAdd, compatCA, compatSt, Dm.stoB, Dm.callB, Dm.adB, compatDyn, lowOK, allLt, labD, skips, guardD, looksG, guardSlot, looksD, goneD, eatsT, eats, goneL, rdD, wrD, simpleD, anyOwn, disj, ldD, ldOK, mvD], ?_⟩
        try simp
        unfold assR at h
        obtain ⟨q, h6, h⟩ := Option.bind_eq_some_iff.1 h
        try dsimp only at h6 h
        refine CallGoal.same (next_ok) ?_
        try simp
        refine CallGoal.same (isW_ok h6) ?_
        try simp
        cases q with
        | true =>
          simp only [if_true] at h
          obtain ⟨⟨⟨k7, t7, ks7⟩, r7⟩, h7, h⟩ := Option.bind_eq_some_iff.1 h
          try dsimp only at h7 h
          simp only [Option.some.injEq, Prod.mk.injEq, Nd.mk.injEq] at h
          obtain ⟨⟨rfl, rfl, rfl⟩, rfl⟩ := h
          simp
          refine CallGoal.same (next_ok) ?_
          try simp
          refine CallGoal.same (hE h7) ?_
          try simp
          refine CallGoal.intro (leaf_p (by simp) (by simp)) (.cons (.refl _) (.cons (.refl _) (.cons (.fr _ _ _) .nil))) ?_
          try simp
          exact Pp.endE (by simp) (by simp) (by simp) (by simp)
        | false =>
          simp only [Bool.false_eq_true, if_false] at h
          obtain ⟨⟨⟨k7, t7, ks7⟩, r7⟩, h7, h⟩ := Option.bind_eq_some_iff.1 h
          try dsimp only at h7 h
          simp only [Option.some.injEq, Prod.mk.injEq, Nd.mk.injEq] at h
          obtain ⟨⟨rfl, rfl, rfl⟩, rfl⟩ := h
          simp
          refine CallGoal.same (next_ok) ?_
          try simp
          refine CallGoal.same (hL h7) ?_
          try simp
          refine CallGoal.intro (leaf_p (by simp) (by simp)) (.cons (.refl _) (.cons (.refl _) (.cons (.fr _ _ _) .nil))) ?_
          try simp
          exact Pp.endE (by simp) (by simp) (by simp) (by simp)
      | false =>
        cases b6 : t.text.toList == [58] with
        | true =>
          simp only [b5, b6, Bool.false_or, if_true] at h
          try simp (maxSteps := 4000000) [b4, b5, b6, a1, a2, a5]
          refine ⟨by simp [pairsOK, pairsOK2, compatAdd, compatCA, compatSt, Dm.stoB, Dm.callB, Dm.adB, compatDyn, lowOK, allLt, labD, skips, guardD, looksG, guardSlot, looksD, goneD, eatsT, eats, goneL, rdD, wrD, simpleD, anyOwn, disj, ldD, ldOK, mvD], by simp [pairsOK, pairsOK2, compatAdd, compatCA, compatSt, Dm.stoB, Dm.callB, Dm.adB, compatDyn, lowOK, allLt, labD, skips, guardD, looksG, guardSlot, looksD, goneD, eatsT, eats, goneL, rdD, wrD, simpleD, anyOwn, disj, ldD, ldOK, mvD], ?_⟩
          try simp
          unfold assR at h
          obtain ⟨q, h6, h⟩ := Option.bind_eq_some_iff.1 h
          try dsimp only at h6 h
          refine CallGoal.same (next_ok) ?_
          try simp
          refine CallGoal.same (isW_ok h6) ?_
          try simp
          cases q with
          | true =>
            simp only [if_true] at h
            obtain ⟨⟨⟨k7, t7, ks7⟩, r7⟩, h7, h⟩ := Option.bind_eq_some_iff.1 h
            try dsimp only at h7 h
            simp only [Option.some.injEq, Prod.mk.injEq, Nd.mk.injEq] at h
            obtain ⟨⟨rfl, rfl, rfl⟩, rfl⟩ := h
            simp
            refine CallGoal.same (next_ok) ?_
            try simp
            refine CallGoal.same (hE h7) ?_
            try simp
            refine CallGoal.intro (leaf_p (by simp) (by simp)) (.cons (.refl _) (.cons (.refl _) (.cons (.fr _ _ _) .nil))) ?_
            try simp
            exact Pp.endE (by simp) (by simp) (by simp) (by simp)
          | false =>
            simp only [Bool.false_eq_true, if_false] at h
            obtain ⟨⟨⟨k7, t7, ks7⟩, r7⟩, h7, h⟩ := Option.bind_eq_some_iff.1 h
            try dsimp only at h7 h
            simp only [Option.some.injEq, Prod.mk.injEq, Nd.mk.injEq] at h
            obtain ⟨⟨rfl, rfl, rfl⟩, rfl⟩ := h
            simp
            refine CallGoal.same (next_ok) ?_
            try simp
            refine CallGoal.same (hL h7) ?_
            try simp
            refine CallGoal.intro (leaf_p (by simp) (by simp)) (.cons (.refl _) (.cons (.refl _) (.cons (.fr _ _ _) .nil))) ?_
            try simp
            exact Pp.endE (by simp) (by simp) (by simp) (by simp)
        | false =>
          simp only [b5, b6, Bool.or_self, Bool.false_eq_true, if_false] at h
          try simp (maxSteps := 4000000) [b4, b5, b6, a1, a2, a5]
          refine ⟨by simp [pairsOK, pairsOK2, compatAdd, compatCA, compatSt, Dm.stoB, Dm.callB, Dm.adB, compatDyn, lowOK, allLt, labD, skips, guardD, looksG, guardSlot, looksD, goneD, eatsT, eats, goneL, rdD, wrD, simpleD, anyOwn, disj, ldD, ldOK, mvD], by simp [pairsOK, pairsOK2, compatAdd, compatCA, compatSt, Dm.stoB, Dm.callB, Dm.adB, compatDyn, lowOK, allLt, labD, skips, guardD, looksG, guardSlot, looksD, goneD, eatsT, eats, goneL, rdD, wrD, simpleD, anyOwn, disj, ldD, ldOK, mvD], ?_⟩
          try simp
          unfold restR at h
          obtain ⟨⟨⟨k4, t4, ks4⟩, r4⟩, h4, h⟩ := Option.bind_eq_some_iff.1 h
          try dsimp only at h4 h
          obtain ⟨q, h5, h⟩ := Option.bind_eq_some_iff.1 h
          try dsimp only at h5 h
          refine CallGoal.same (hE h4) ?_
          try simp
          try simp
          unfold isN at h5
          cases h6 : decide (r4.bad < 0) with
          | false =>
            simp only [h6, Bool.false_eq_true, if_false, Option.some.injEq] at h5
            subst h5
            simp only [Bool.false_eq_true, if_false] at h
            simp only [Option.some.injEq, Prod.mk.injEq, Nd.mk.injEq] at h
            obtain ⟨⟨rfl, rfl, rfl⟩, rfl⟩ := h
            simp [h6]
            refine CallGoal.intro (leaf_p (by simp) (by simp)) (.cons (.refl _) (.cons (.refl _) (.cons (.fr _ _ _) .nil))) ?_
            try simp
            exact Pp.endE (by simp) (by simp) (by simp) (by simp)
          | true =>
            simp only [h6, if_true] at h5
            simp [h6]
            refine CallGoal.same (isW_ok h5) ?_
            try simp [h6]
            cases q with
            | false =>
              simp only [Bool.false_eq_true, if_false] at h
              simp only [Option.some.injEq, Prod.mk.injEq, Nd.mk.injEq] at h
              obtain ⟨⟨rfl, rfl, rfl⟩, rfl⟩ := h
              simp
              refine CallGoal.intro (leaf_p (by simp) (by simp)) (.cons (.refl _) (.cons (.refl _) (.cons (.fr _ _ _) .nil))) ?_
              try simp
              exact Pp.endE (by simp) (by simp) (by simp) (by simp)
            | true =>
              simp only [if_true] at h
              obtain ⟨⟨⟨k7, t7, ks7⟩, r7⟩, h7, h⟩ := Option.bind_eq_some_iff.1 h
              try dsimp only at h7 h
              simp only [Option.some.injEq, Prod.mk.injEq, Nd.mk.injEq] at h
              obtain ⟨⟨rfl, rfl, rfl⟩, rfl⟩ := h
              simp
              refine CallGoal.same (next_ok) ?_
              try simp
              refine drawWp.intro [(1, 3)] [1, 3] mixed (by kernel_rfl) (by kernel_rfl) (by kernel_rfl) ?_
              try simp
              refine CallGoal.same (hE h7) ?_
              try simp
              refine CallGoal.intro (leaf_p (by simp) (by simp)) (.cons (.refl _) (.cons (.refl _) (.cons (.fr _ _ _) .nil))) ?_
              try simp
              refine ⟨by simp [pairsOK, pairsOK2, compatAdd, compatCA, compatSt, Dm.stoB, Dm.callB, Dm.adB, compatDyn, lowOK, allLt, labD, skips, guardD, looksG, guardSlot, looksD, goneD, eatsT, eats, goneL, rdD, wrD, simpleD, anyOwn, disj, ldD, ldOK, mvD], by simp [pairsOK, pairsOK2, compatAdd, compatCA, compatSt, Dm.stoB, Dm.callB, Dm.adB, compatDyn, lowOK, allLt, labD, skips, guardD, looksG, guardSlot, looksD, goneD, eatsT, eats, goneL, rdD, wrD, simpleD, anyOwn, disj, ldD, ldOK, mvD], ?_⟩
              try simp
              exact Pp.endE (by simp) (by simp) (by simp) (by simp)
end Rp
end Go.Proofs.Dm
