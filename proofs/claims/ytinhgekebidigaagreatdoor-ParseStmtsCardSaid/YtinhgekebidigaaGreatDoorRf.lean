/- Part of the proof: contracts of the functions, walked by the D-machine. No condition. -/
import Derived.Test.YtinhgekebidigaaGreatDoorSc
import Derived.Test.YtinhgekebidigaaGreatDoorPb
import Derived.Test.YtinhgekebidigaaGreatDoorRa
set_option linter.unusedSimpArgs false
set_option linter.unusedVariables false
set_option maxHeartbeats 4000000
namespace Go.Proofs.Dm
open Go Go.Proofs Go.Proofs.Tryz
namespace Rk
attribute [local simp] takes handsOn isTmp Op.operands Call.operands
open Sc
theorem in_ok {W0 nb xs s} (hl : xs.length < 1000000) : DCalls ⟨Tryz.prog, W0, nb⟩ 38 [.p (.str s), .p (.sl 1 (rowsS xs))] [] (.p (.bool (isIn xs s))) [] := by
  refine dcalls_end Tryz.func38 rfl (by kernel_rfl) 18 Tryz.ntmps38 #[.tmp 4] rfl (Nat.le_of_ble_eq_true rfl) ?_
  simp
  refine ⟨fun m st => ∃ i, isIn (xs.drop i) s = isIn xs s ∧ m = xs.length - i ∧ i ≤ xs.length ∧ st.hp = [] ∧ st.tm 0 = .p (.str s) ∧ st.tm 1 = .p (.sl 1 (rowsS xs)) ∧ st.tm 5 = i64 (i : Nat), xs.length, .here ⟨0, by simp, by simp, by simp, by simp, by simp, by simp, by simp⟩, ?_⟩
  rintro m ⟨tm, hp⟩ ⟨i, h, rfl, hi, h0, h1, h2, h4⟩
  simp only at h0 h1 h2 h4
  subst h0
  have hrl : (rowsS xs).length = xs.length := by simp [rowsS]
  simp [h1, h2, h4, hrl]
  rcases Nat.lt_or_ge i xs.length with hlt | hge
  · have hg : (rowsS xs)[i]? = some [.str xs[i]] := by simp [rowsS, hlt]
    have hd : xs.drop i = xs[i] :: xs.drop (i + 1) := List.drop_eq_getElem_cons hlt
    rw [hd] at h
    simp only [isIn, List.any_cons] at h
    have hw := w64_id (n := (i : Int) + 1) (by omega) (by omega)
    simp only [w64] at hw
    have he : (xs[i].toList == s.toList) = eqB s xs[i] := by simp only [eqB]; exact Bool.beq_comm
    simp [hlt, h1, h2, h4, hg, rowsS, he]
    cases hq : eqB s xs[i] with
    | true =>
      rw [hq, Bool.true_or] at h
      rw [show isIn xs s = true from h.symm]
      simp
      exact .keep (by simp) (.refl _) (by simp) (by simp) (by simp) (by simp)
    | false =>
      rw [hq, Bool.false_or] at h
      simp [h1, h2, h4]
      exact .same (xs.length - (i + 1)) (by omega) ⟨i + 1, h, rfl, by omega, by simp, by simp [h1], by simp [h2, rowsS], by simp [hw]⟩
  · have : i = xs.length := by omega
    subst this
    rw [← h]
    simp [isIn]
    exact .keep (by simp) (.refl _) (by simp) (by simp) (by simp) (by simp)
def ranksL : List (List ByteArray) := [[⟨#[124, 124]⟩], [⟨#[38, 38]⟩], [⟨#[61, 61]⟩, ⟨#[33, 61]⟩, ⟨#[60]⟩], [⟨#[43]⟩, ⟨#[45]⟩], [⟨#[42]⟩]]
def rankAt (s : ByteArray) : List (List ByteArray) → Nat → Int
  | [], _ => 0
  | r :: rs, i => if isIn r s then (i : Int) + 1 else rankAt s rs (i + 1)
def rowR (r : List ByteArray) : List PD := [.sl 1 (rowsS r)]
theorem rank_eq (s : ByteArray) : rankAt s ranksL 0 = Pp.rank s := by
  have e : ∀ a : List UInt8, (ByteArray.mk a.toArray).toList = a := by intro a; simp [ByteArray.toList_eq]
  simp only [ranksL, rankAt, isIn, List.any_cons, List.any_nil, Bool.or_false, eqB, Pp.rank, e]
  generalize s.1.toList = x
  cases x == [124, 124] <;> cases x == [38, 38] <;> cases x == [61, 61] <;> cases x == [33, 61] <;> cases x == [60] <;> cases x == [43] <;> cases x == [45] <;> cases x == [42] <;> rfl
def rkI (s : ByteArray) (R : Int) (m : Nat) (st : St) : Prop := ∃ i : Nat, rankAt s (ranksL.drop i) i = R ∧ m = 5 - i ∧ i ≤ 5 ∧ st.hp = [] ∧ st.tm 0 = .p (.str s) ∧ st.tm 3 = .own 67 1 (ranksL.map rowR) ∧ st.tm 4 = i64 (i : Nat)
theorem rank_ok {W0 nb s} : DCalls ⟨Tryz.prog, W0, nb⟩ 108 [.p (.str s)] [] (i64 (Pp.rank s)) [] := by
  rw [← rank_eq]
  obtain ⟨R, hR⟩ : ∃ R, rankAt s ranksL 0 = R := ⟨_, rfl⟩
  rw [hR]
  refine dcalls_end Tryz.func108 rfl (by kernel_rfl) 25 Tryz.ntmps108 #[.tmp 2] rfl (Nat.le_of_ble_eq_true rfl) ?_
  simp
  refine ⟨rkI s R, 5, .here ⟨0, hR, by simp, by simp, by simp, by simp, by simp [ranksL, rowR, rowsS], by simp⟩, ?_⟩
  rintro m ⟨tm, hp⟩ ⟨i, h, rfl, hi, h0, h1, h3, h4⟩
  simp only at h0 h1 h3 h4
  subst h0
  have hrl : ranksL.length = 5 := rfl
  simp [h3, h4, hrl]
  rcases Nat.lt_or_ge i 5 with hlt | hge
  · have hlt' : i < ranksL.length := by rw [hrl]; exact hlt
    have hd : ranksL.drop i = ranksL[i] :: ranksL.drop (i + 1) := List.drop_eq_getElem_cons hlt'
    rw [hd] at h
    simp only [rankAt] at h
    have hw := w64_id (n := (i : Int) + 1) (by omega) (by omega)
    simp only [w64] at hw
    have hsm : ranksL[i].length < 1000000 := by
      have : ∀ r ∈ ranksL, r.length < 1000000 := by decide
      exact this _ (List.getElem_mem hlt')
    have hi5 : (i : Int) < 5 := by omega
    simp [hi5, hlt', h1, h3, h4, rowR, hrl, List.getElem?_eq_getElem hlt']
    refine CallGoal.same (in_ok hsm) ?_
    cases hq : isIn ranksL[i] s with
    | true =>
      rw [hq, if_pos rfl] at h
      subst h
      simp [h4, hw]
      exact .keep (by simp) (.refl _) (by simp) (by simp) (by simp) (by simp)
    | false =>
      rw [hq] at h
      simp only [Bool.false_eq_true, if_false] at h
      simp [h4, hw]
      exact .same (5 - (i + 1)) (by omega) ⟨i + 1, h, rfl, by omega, by simp, by simp [h1], by simp [h3], by simp [hw]⟩
  · have : i = 5 := by omega
    subst this
    simp [ranksL, rankAt] at h
    subst h
    simp
    exact .keep (by simp) (.refl _) (by simp) (by simp) (by simp) (by simp)
end Rk
end Go.Proofs.Dm

set_option linter.unusedSimpArgs false
set_option linter.unusedVariables false
set_option maxHeartbeats 4000000
namespace Go.Proofs.Dm
open Go Go.Proofs Go.Proofs.Tryz Go.Proofs.Dm.Sc
namespace Rp
attribute [local simp] rbox encT encN encNs takes handsOn isTmp Op.operands Call.operands
def HX (C : Ctx) (l : List Tok) (k : Int) (X : RM) : Prop := ∀ {rs nd rs'}, X rs = some (nd, rs') → DCalls C 95 [.ref 0 0, i64 k] [rbox l rs] (.agg ((encN nd).map .p)) [rbox l rs']
theorem expr6 {W0 nb l U} (hU : HN ⟨Tryz.prog, W0, nb⟩ l 107 U) : HX ⟨Tryz.prog, W0, nb⟩ l 6 U := by
  intro rs ⟨k0, t0, ks0⟩ rs' h
  refine dcalls_end Tryz.func95 rfl (by kernel_rfl) 51 Tryz.ntmps95 #[.cell 4 35] rfl (Nat.le_of_ble_eq_true rfl) ?_
  simp
  refine CallGoal.same (hU h) ?_
  try simp
  exact .keep (by simp) (.refl _) (by simp) (by simp) (by simp) (by simp)
theorem exprStep {W0 nb l N} {X : RM} {k : Int} (k1 : 1 ≤ k) (k5 : k ≤ 5) (hX : HX ⟨Tryz.prog, W0, nb⟩ l (k + 1) X) : HX ⟨Tryz.prog, W0, nb⟩ l k (fun rs => (X rs).bind fun x => exprL l X k N x.1 x.2) := by
  intro rs ⟨k0, t0, ks0⟩ rs' h
  dsimp only at h
  obtain ⟨⟨⟨k1', t1, ks1⟩, p1⟩, g1, h⟩ := Option.bind_eq_some_iff.1 h
  try dsimp only at g1 h
  have hw := w64_id (n := k + 1) (by omega) (by omega)
  simp only [w64] at hw
  have hk : ¬ 5 < k := by omega
  refine dcalls_end Tryz.func95 rfl (by kernel_rfl) 51 Tryz.ntmps95 #[.cell 4 35] rfl (Nat.le_of_ble_eq_true rfl) ?_
  simp [hk, hw]
  refine CallGoal.same (hX g1) ?_
  try simp [hw]
  refine ⟨fun m s => ∃ kx tx ksx ps, exprL l X k m (.mk kx tx ksx) ps = some (.mk k0 t0 ks0, rs') ∧ s.hp = [rbox l ps, [i64 0, i64 0, .own 35 3 []], [i64 kx, i64 tx, .p (.sl 3 (encNs ksx))]] ∧ s.tm 0 = .ref 0 0 ∧ s.tm 1 = i64 k ∧ s.tm 4 = .ref 1 0 ∧ s.tm 5 = .ref 2 0, N, .here ⟨k1', t1, ks1, p1, h, ?_⟩, ?_⟩
  · simp
  rintro m ⟨tm, hp⟩ ⟨kx, tx, ksx, ps, h, e1, e3, e4, e5, e6⟩
  simp only at e1 e3 e4 e5 e6
  subst e1
  cases m with
  | zero => cases h
  | succ m =>
    simp only [exprL] at h
    simp [e3, e4, e6]
    refine drawWp.intro [] [17] mixed (by kernel_rfl) (by kernel_rfl) (by kernel_rfl) ?_
    try simp
    try simp [e3, e4, e6]
    cases b1 : decide (ps.bad < 0) with
    | false =>
      simp only [b1, Bool.false_eq_true, if_false] at h
      simp only [Option.some.injEq, Prod.mk.injEq, Nd.mk.injEq] at h
      obtain ⟨⟨rfl, rfl, rfl⟩, rfl⟩ := h
      simp [b1, e3, e4, e6]
      refine ⟨by simp [pairsOK, pairsOK2, compatAdd, compatCA, compatSt, Dm.stoB, Dm.callB, Dm.adB, compatDyn, lowOK, allLt, labD, skips, guardD, looksG, guardSlot, looksD, goneD, eatsT, eats, goneL, rdD, wrD, simpleD, anyOwn, disj, ldD, ldOK, mvD, e3, e4], by simp [pairsOK, pairsOK2, compatAdd, compatCA, compatSt, Dm.stoB, Dm.callB, Dm.adB, compatDyn, lowOK, allLt, labD, skips, guardD, looksG, guardSlot, looksD, goneD, eatsT, eats, goneL, rdD, wrD, simpleD, anyOwn, disj, ldD, ldOK, mvD, e3, e4], ?_⟩
      try simp
      try simp [e5, e6]
      exact .keep (by simp [e5]) (.refl _) (by simp) (by simp [e5]) (by simp [e5]) (by simp [e5])
    | true =>
      simp only [b1, if_true] at h
      obtain ⟨t, h2, h⟩ := Option.bind_eq_some_iff.1 h
      try dsimp only at h2 h
      have h3 : kindQ l ps 4 = some (t.kind == 4) := by simp only [kindQ, h2]; rfl
      have h4 : 0 ≤ ps.at_ ∧ l[ps.at_.toNat]? = some t := by
        unfold here at h2
        split at h2
        · rename_i q; exact ⟨q, h2⟩
        · cases h2
      simp [b1, e3]
      refine CallGoal.same (kindQ_ok h3) ?_
      try simp [e3, e4, e6]
      cases b2 : t.kind == 4 with
      | false =>
        simp only [b2, Bool.false_eq_true, if_false] at h
        simp only [Option.some.injEq, Prod.mk.injEq, Nd.mk.injEq] at h
        obtain ⟨⟨rfl, rfl, rfl⟩, rfl⟩ := h
        try simp [b2, e3, e4, e6]
        refine ⟨by simp [pairsOK, pairsOK2, compatAdd, compatCA, compatSt, Dm.stoB, Dm.callB, Dm.adB, compatDyn, lowOK, allLt, labD, skips, guardD, looksG, guardSlot, looksD, goneD, eatsT, eats, goneL, rdD, wrD, simpleD, anyOwn, disj, ldD, ldOK, mvD, e3, e4], by simp [pairsOK, pairsOK2, compatAdd, compatCA, compatSt, Dm.stoB, Dm.callB, Dm.adB, compatDyn, lowOK, allLt, labD, skips, guardD, looksG, guardSlot, looksD, goneD, eatsT, eats, goneL, rdD, wrD, simpleD, anyOwn, disj, ldD, ldOK, mvD, e3, e4], ?_⟩
        try simp
        try simp [e5, e6]
        exact .keep (by simp [e5]) (.refl _) (by simp) (by simp [e5]) (by simp [e5]) (by simp [e5])
      | true =>
        simp only [b2, if_true] at h
        try simp [b2, e3, h4.1, h4.2]
        refine CallGoal.same (Rk.rank_ok) ?_
        try simp [e3, e4, e6]
        cases b3 : Pp.rank t.text == k with
        | false =>
          simp only [b3, Bool.false_eq_true, if_false] at h
          simp only [Option.some.injEq, Prod.mk.injEq, Nd.mk.injEq] at h
          obtain ⟨⟨rfl, rfl, rfl⟩, rfl⟩ := h
          try simp [b3, e3, e4, e6]
          refine ⟨by simp [pairsOK, pairsOK2, compatAdd, compatCA, compatSt, Dm.stoB, Dm.callB, Dm.adB, compatDyn, lowOK, allLt, labD, skips, guardD, looksG, guardSlot, looksD, goneD, eatsT, eats, goneL, rdD, wrD, simpleD, anyOwn, disj, ldD, ldOK, mvD, e3, e4], by simp [pairsOK, pairsOK2, compatAdd, compatCA, compatSt, Dm.stoB, Dm.callB, Dm.adB, compatDyn, lowOK, allLt, labD, skips, guardD, looksG, guardSlot, looksD, goneD, eatsT, eats, goneL, rdD, wrD, simpleD, anyOwn, disj, ldD, ldOK, mvD, e3, e4], ?_⟩
          try simp
          try simp [e5, e6]
          exact .keep (by simp [e5]) (.refl _) (by simp) (by simp [e5]) (by simp [e5]) (by simp [e5])
        | true =>
          simp only [b3, if_true] at h
          obtain ⟨⟨⟨k2, t2, ks2⟩, p2⟩, h6, h⟩ := Option.bind_eq_some_iff.1 h
          try dsimp only at h6 h
          try simp [b3, e3, e4]
          refine ⟨by simp [pairsOK, pairsOK2, compatAdd, compatCA, compatSt, Dm.stoB, Dm.callB, Dm.adB, compatDyn, lowOK, allLt, labD, skips, guardD, looksG, guardSlot, looksD, goneD, eatsT, eats, goneL, rdD, wrD, simpleD, anyOwn, disj, ldD, ldOK, mvD, e3, e4], by simp [pairsOK, pairsOK2, compatAdd, compatCA, compatSt, Dm.stoB, Dm.callB, Dm.adB, compatDyn, lowOK, allLt, labD, skips, guardD, looksG, guardSlot, looksD, goneD, eatsT, eats, goneL, rdD, wrD, simpleD, anyOwn, disj, ldD, ldOK, mvD, e3, e4], ?_⟩
          try simp
          try simp [e3, e6]
          refine CallGoal.same (next_ok) ?_
          try simp [e3, e4, e6]
          refine drawWp.intro [(1, 5)] [1, 5] mixed (by kernel_rfl) (by kernel_rfl) (by kernel_rfl) ?_
          try simp
          try simp [e3, e4, e6, hw]
          refine CallGoal.same (hX h6) ?_
          try simp [e3, e4, e6]
          refine CallGoal.intro (leaf_pF (by simp) (by simp)) (.cons (.refl _) (.cons (.refl _) (.cons (.fr _ _ _) .nil))) ?_
          try simp [e3, e4, e6]
          refine ⟨by simp [pairsOK, pairsOK2, compatAdd, compatCA, compatSt, Dm.stoB, Dm.callB, Dm.adB, compatDyn, lowOK, allLt, labD, skips, guardD, looksG, guardSlot, looksD, goneD, eatsT, eats, goneL, rdD, wrD, simpleD, anyOwn, disj, ldD, ldOK, mvD, e3, e4, e6], by simp [pairsOK, pairsOK2, compatAdd, compatCA, compatSt, Dm.stoB, Dm.callB, Dm.adB, compatDyn, lowOK, allLt, labD, skips, guardD, looksG, guardSlot, looksD, goneD, eatsT, eats, goneL, rdD, wrD, simpleD, anyOwn, disj, ldD, ldOK, mvD, e3, e4, e6], ?_⟩
          try simp
          try simp [e3, e4, e6]
          refine .same m (by omega) ⟨_, _, _, _, h, ?_⟩
          simp [e3, e4, e5, e6]
theorem exprT_ok {W0 nb l U N} (hU : HN ⟨Tryz.prog, W0, nb⟩ l 107 U) : ∀ j : Nat, j ≤ 5 → HX ⟨Tryz.prog, W0, nb⟩ l (6 - (j : Int)) (exprT l U N j)
  | 0, _ => expr6 hU
  | j + 1, hj => by
    have this : HX ⟨Tryz.prog, W0, nb⟩ l (6 - (j : Int)) (exprT l U N j) := exprT_ok (N := N) hU j (by omega)
    have e : (6 - (j : Int)) = (5 - (j : Int)) + 1 := by omega
    rw [e] at this
    have e2 : (6 - ((j + 1 : Nat) : Int)) = 5 - (j : Int) := by omega
    rw [e2]
    exact exprStep (by omega) (by omega) this
theorem exprE_ok {W0 nb l U N} (hU : HN ⟨Tryz.prog, W0, nb⟩ l 107 U) : HE ⟨Tryz.prog, W0, nb⟩ l (exprE l U N) := by
  intro k rs nd rs' h
  simp only [exprE] at h
  split at h
  · rename_i hk
    have hk : k = 1 := by simpa using hk
    subst hk
    exact exprT_ok (N := N) hU 5 (by omega) h
  · cases h
end Rp
end Go.Proofs.Dm
