/- Part of the proof: contracts of the functions, walked by the D-machine. No condition. -/
import Derived.Test.YtinhgekebidigaaGreatDoorPa
import Derived.Test.YtinhgekebidigaaGreatDoorHc
set_option linter.unusedSimpArgs false
set_option linter.unusedVariables false
set_option maxHeartbeats 8000000
namespace Go.Proofs.Dm
open Go Go.Proofs Go.Proofs.Tryz Go.Proofs.Dm.Sc
namespace Pq
attribute [local simp] encT encN encNs takes handsOn isTmp Op.operands Call.operands
theorem encNs_len : ∀ ks : List Nd, (encNs ks).length = ks.length
  | [] => rfl
  | k :: ks => by simp only [encNs, List.length_cons, encNs_len ks]
theorem encNs_get : ∀ (ks : List Nd) (i : Nat) (h : i < ks.length), (encNs ks)[i]? = some (encN ks[i])
  | [], i, h => by simp at h
  | k :: ks, 0, h => rfl
  | k :: ks, i + 1, h => by
    simp only [encNs, List.getElem?_cons_succ, List.getElem_cons_succ]
    exact encNs_get ks i (by simpa using h)
theorem eq_step {W0 nb} {k t : Int} {ks : List Nd} (hl : ks.length < 4611686018427387904) (ih : ∀ x ∈ ks, DCalls ⟨Tryz.prog, W0, nb⟩ 15 [.agg ((encN x).map .p), .agg ((encN x).map .p)] [] (.p (.bool true)) []) :
    DCalls ⟨Tryz.prog, W0, nb⟩ 15 [.agg ((encN (.mk k t ks)).map .p), .agg ((encN (.mk k t ks)).map .p)] [] (.p (.bool true)) [] := by
  have hL := encNs_len ks
  refine dcalls_end Tryz.func15 rfl (by kernel_rfl) 46 Tryz.ntmps15 #[.tmp 4] rfl (Nat.le_of_ble_eq_true rfl) ?_
  simp
  refine ⟨fun m s => ∃ i : Nat, i ≤ ks.length ∧ m = ks.length - i ∧ s.hp = [[i64 k, i64 t, .p (.sl 3 (encNs ks))], [i64 k, i64 t, .p (.sl 3 (encNs ks))]] ∧ s.tm 2 = .ref 0 0 ∧ s.tm 3 = .ref 1 0 ∧ s.tm 5 = i64 (i : Nat), ks.length, .here ⟨0, by simp, by simp, by simp, by simp, by simp, by simp⟩, ?_⟩
  rintro m ⟨tm, hp⟩ ⟨i, hi, rfl, h0, h2, h3, h5⟩
  simp only at h0 h2 h3 h5
  subst h0
  simp [h2, h3, h5, hL]
  rcases Nat.lt_or_ge i ks.length with hlt | hge
  · have hg := encNs_get ks i hlt
    have hlt' : i < (encNs ks).length := by omega
    have hg' : (encNs ks)[i] = encN ks[i] := by
      have := List.getElem?_eq_getElem hlt'
      rw [hg] at this
      injection this with this
      exact this.symm
    have hw := w64_id (n := (i : Int) + 1) (by omega) (by omega)
    simp only [w64] at hw
    obtain ⟨q, hq⟩ : ∃ q, ks[i] = q := ⟨_, rfl⟩
    have c := ih ks[i] (List.getElem_mem hlt)
    rw [hq] at c hg hg'
    obtain ⟨k1, t1, ks1⟩ := q
    simp only [encN] at c hg hg'
    simp [hlt, h2, h3, h5, hL]
    refine drawWp.intro [] [6, 9] mixed (by kernel_rfl) (by kernel_rfl) (by kernel_rfl) ?_
    try simp
    try simp [hlt, hlt', hg, hg', h2, h3, h5, hL]
    refine CallGoal.same (c) ?_
    try simp [h2, h3, h5, hL]
    refine ⟨by simp [pairsOK, pairsOK2, compatAdd, compatCA, compatSt, Dm.stoB, Dm.callB, Dm.adB, compatDyn, lowOK, allLt, labD, skips, guardD, looksG, guardSlot, looksD, goneD, eatsT, eats, goneL, rdD, wrD, simpleD, anyOwn, disj, ldD, ldOK, mvD, h2, h3, h5], by simp [pairsOK, pairsOK2, compatAdd, compatCA, compatSt, Dm.stoB, Dm.callB, Dm.adB, compatDyn, lowOK, allLt, labD, skips, guardD, looksG, guardSlot, looksD, goneD, eatsT, eats, goneL, rdD, wrD, simpleD, anyOwn, disj, ldD, ldOK, mvD, h2, h3, h5], ?_⟩
    try simp
    try simp [h2, h3, h5, hw]
    refine .same (ks.length - (i + 1)) (by omega) ⟨i + 1, by omega, rfl, by simp, by simp [h2], by simp [h3], by simp [hw]⟩
  · have hn : ¬ i < ks.length := by omega
    simp [hn]
    exact .keep (by simp) (.refl _) (by simp) (by simp) (by simp) (by simp)
end Pq
end Go.Proofs.Dm

set_option linter.unusedSimpArgs false
set_option linter.unusedVariables false
set_option maxHeartbeats 8000000
set_option maxRecDepth 100000
namespace Go.Proofs.Dm
open Go Go.Proofs Go.Proofs.Tryz Go.Proofs.Dm.Sc
namespace Pq
attribute [local simp] encT encN encNs takes handsOn isTmp Op.operands Call.operands
theorem eq_ok {W0 nb} {B : Nat} (hB : B < 4611686018427387904) {nd : Nd} (h : Gr.Small B nd) : DCalls ⟨Tryz.prog, W0, nb⟩ 15 [.agg ((encN nd).map .p), .agg ((encN nd).map .p)] [] (.p (.bool true)) [] := by
  induction h with
  | mk h1 h2 ih => exact eq_step (by omega) ih
theorem eqTokens_ok {W0 nb} {l : List Tok} (hl : l.length < 4611686018427387904) : DCalls ⟨Tryz.prog, W0, nb⟩ 14 [.p (.sl 5 (l.map encT)), .p (.sl 5 (l.map encT))] [] (.p (.bool true)) [] := by
  refine dcalls_end Tryz.func14 rfl (by kernel_rfl) 80 Tryz.ntmps14 #[.tmp 4] rfl (Nat.le_of_ble_eq_true rfl) ?_
  simp
  refine ⟨fun m s => ∃ i : Nat, i ≤ l.length ∧ m = l.length - i ∧ s.hp = [] ∧ s.tm 0 = .p (.sl 5 (l.map encT)) ∧ s.tm 1 = .p (.sl 5 (l.map encT)) ∧ s.tm 5 = i64 (i : Nat), l.length, .here ⟨0, by simp, by simp, by simp, by simp, by simp, by simp⟩, ?_⟩
  rintro m ⟨tm, hp⟩ ⟨i, hi, rfl, h0, h2, h3, h5⟩
  simp only at h0 h2 h3 h5
  subst h0
  simp [h2, h3, h5]
  rcases Nat.lt_or_ge i l.length with hlt | hge
  · have hw := w64_id (n := (i : Int) + 1) (by omega) (by omega)
    simp only [w64] at hw
    simp [hlt, h2, h3, h5]
    refine drawWp.intro [] [9, 21, 34, 47, 60] mixed (by kernel_rfl) (by kernel_rfl) (by kernel_rfl) ?_
    simp (maxSteps := 4000000) [hlt, h2, h3, h5]
    refine ⟨by simp [pairsOK, pairsOK2, compatAdd, compatCA, compatSt, Dm.stoB, Dm.callB, Dm.adB, compatDyn, lowOK, allLt, labD, skips, guardD, looksG, guardSlot, looksD, goneD, eatsT, eats, goneL, rdD, wrD, simpleD, anyOwn, disj, ldD, ldOK, mvD, h2, h3, h5], by simp [pairsOK, pairsOK2, compatAdd, compatCA, compatSt, Dm.stoB, Dm.callB, Dm.adB, compatDyn, lowOK, allLt, labD, skips, guardD, looksG, guardSlot, looksD, goneD, eatsT, eats, goneL, rdD, wrD, simpleD, anyOwn, disj, ldD, ldOK, mvD, h2, h3, h5], ?_⟩
    try simp
    try simp [h2, h3, h5, hw]
    refine .same (l.length - (i + 1)) (by omega) ⟨i + 1, by omega, rfl, by simp, by simp [h2], by simp [h3], by simp [hw]⟩
  · have hn : ¬ i < l.length := by omega
    simp [hn]
    exact .keep (by simp) (.refl _) (by simp) (by simp) (by simp) (by simp)
end Pq
end Go.Proofs.Dm
