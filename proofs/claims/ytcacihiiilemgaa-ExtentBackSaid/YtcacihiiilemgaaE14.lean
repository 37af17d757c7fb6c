/- Part of the proof: contracts of the functions, walked by the D-machine. No condition. -/
import Derived.Test.YtcacihiiilemgaaE13
import Derived.Test.YtcacihiiilemgaaEP2
set_option linter.unusedSimpArgs false
set_option linter.unusedVariables false
set_option maxHeartbeats 40000000
set_option maxRecDepth 100000
namespace Go.Proofs.Dm
open Go Go.Proofs Go.Proofs.Try
attribute [local simp] takes handsOn isTmp Op.operands Call.operands
def encR (r : Nat × Nat) : List PD := [.int .i64 (5 + (r.1 : Int)), .int .i64 (r.2 : Int)]
theorem getR {L : List (Nat × Nat)} {i : Nat} {r : Nat × Nat} (h : L[i]? = some r) : (L.map encR)[i]? = some [.int .i64 (5 + (r.1 : Int)), .int .i64 (r.2 : Int)] := by
  rw [List.getElem?_map, h]; rfl
theorem tm_range (x : Int) {n : Nat} (hn : 0 < n) : 0 ≤ (x.tmod n + n).tmod n ∧ (x.tmod n + n).tmod n < n ∧ -(n : Int) < x.tmod n ∧ x.tmod n < n := by
  have h1 : x.tmod n < n := Int.tmod_lt_of_pos x (by omega)
  have h2 : -(n : Int) < x.tmod n := Int.lt_tmod_of_pos x (by omega)
  exact ⟨Int.tmod_nonneg _ (by omega), Int.tmod_lt_of_pos _ (by omega), h2, h1⟩
def backJ (L : List (Nat × Nat) → Prop) (s : St) : Prop := True
theorem backl_ok {W0 nb} {xs ys : List Int} : DCalls ⟨Try.prog, W0, nb⟩ 4 [rowsI xs, rowsI ys] [] (bl true) [] := by
  refine dcalls_end Try.func4 rfl (by kernel_rfl) 116 Try.ntmps4 #[.tmp 4] rfl (Nat.le_of_ble_eq_true rfl) ?_
  simp [rowsI]
  refine CallGoal.same begun_ok ?_
  simp
  refine CallGoal.same (new_ok (at_ := 5) (n := 200) (by omega) (by omega)) ?_
  simp
  refine LoopGoal.cut (fun s => ∃ (fr : List Bool) (L : List (Nat × Nat)), BInv fr L ∧ L.length ≤ 30 ∧ s.hp = [fbox fr, [i64 5, .arr 0 0 1 fr.length]] ∧ s.tm 1 = rowsI ys ∧ s.tm 6 = .ref 1 0 ∧ s.tm 7 = .own 30 2 (L.map encR)) ?_ ?_
  · refine ⟨fun m s => ∃ (i : Nat) (fr : List Bool) (L : List (Nat × Nat)), m = 30 - i ∧ i ≤ 30 ∧ BInv fr L ∧ L.length ≤ i ∧ s.hp = [fbox fr, [i64 5, .arr 0 0 1 fr.length]] ∧ s.tm 0 = rowsI xs ∧ s.tm 1 = rowsI ys ∧ s.tm 6 = .ref 1 0 ∧ s.tm 7 = .own 30 2 (L.map encR) ∧ s.tm 8 = i64 i, 30,
      .here ⟨0, List.replicate 200 true, [], rfl, by omega, ⟨by simp, by simp, by simp, fun q hq => by
        rw [List.getD_eq_getElem?_getD, List.getElem?_replicate, if_pos hq]; simp⟩, by simp, by simp, by simp [rowsI], by simp [rowsI], by simp, by simp, by simp⟩, ?_⟩
    rintro m ⟨tm, hp⟩ ⟨i, fr, L, rfl, hi, I, hL, q1, q2, q3, q4, q5, q6⟩
    simp only at q1 q2 q3 q4 q5 q6
    subst q1
    by_cases h1 : i < xs.length
    · have h1' : (i : Int) < xs.length := by omega
      by_cases h2 : i < 30
      · have h2' : (i : Int) < 30 := by omega
        have g1 := getI h1
        obtain ⟨t1, t2, t3, t4, t5⟩ := twenty_eq xs[i]
        generalize hx : xs[i] = x at *
        generalize hb : twenty x = b at *
        have w1 : IntKind.i64.wrap (x.tmod 20 + 20) = x.tmod 20 + 20 := wI (by omega) (by omega)
        have w2 : IntKind.i64.wrap (1 + (x.tmod 20 + 20).tmod 20) = b := by rw [wI (by omega) (by omega)]; omega
        have w6 : IntKind.i64.wrap ((i : Int) + 1) = ((i + 1 : Nat) : Int) := by rw [wI (by omega) (by omega)]; omega
        have l1 : (L.length + 1) * 16 ≤ 140737488355328 := by omega
        have l2 : L.length + 1 ≤ 9223372036854775807 := by omega
        simp [rowsI, q2, q3, q4, q5, q6, h1, h2, h1', h2', g1, hx, w1, w2]
        refine CallGoal.same (take_ok (at_ := 5) (n := (b : Int)) (fr := fr) (by omega) (by omega) (by rw [I.len]; omega)) ?_
        cases hc : firstS (spansP 5 fr) b with
        | some r =>
          obtain ⟨p, e, hp⟩ := first_some t2 hc
          have ht := take_some (at_ := 5) t2 hp
          rw [ht.1, ht.2.1]
          simp [room, q2, q3, q4, q5, q6, l1, l2]
          exact .drop (30 - (i + 1)) (by omega) 2 (by omega) (by simp) (by simp) ⟨i + 1, rfl, by omega, _, L ++ [(p, b)], I.take t2 hp, by simp; omega, by simp [dropSt], by simp [dropSt, dropD, q2, rowsI], by simp [dropSt, dropD, q3, rowsI], by simp [dropSt, dropD, q4], by simp [dropSt, dropD, encR], by simp [dropSt, dropD, w6]⟩
        | none =>
          have hn := take_none (at_ := 5) (fr := fr) (n := (b : Int)) (.inr fun q hq => by
            rw [Int.toNat_natCast] at *
            exact first_none t2 hc q hq)
          rw [hn.1, hn.2]
          simp [room, q2, q3, q4, q5, q6]
          exact .drop (30 - (i + 1)) (by omega) 2 (by omega) (by simp) (by simp) ⟨i + 1, rfl, by omega, fr, L, I, by omega, by simp [dropSt], by simp [dropSt, dropD, q2, rowsI], by simp [dropSt, dropD, q3, rowsI], by simp [dropSt, dropD, q4], by simp [dropSt, dropD, q5], by simp [dropSt, dropD, w6]⟩
      · have h2' : ¬ ((i : Int) < 30) := by omega
        simp [rowsI, q2, q3, q4, q5, q6, h1, h2, h1', h2']
        exact ⟨fr, L, I, by omega, by simp [q3, q4, q5, rowsI]⟩
    · have h1' : ¬ ((i : Int) < xs.length) := by omega
      simp [rowsI, q2, q3, q4, q5, q6, h1, h1']
      exact ⟨fr, L, I, by omega, by simp [q3, q4, q5, rowsI]⟩
  · rintro ⟨tm, hp⟩ ⟨fr, L, I, hL, q1, q2, q3, q4⟩
    simp only at q1 q2 q3 q4
    subst q1
    simp [rowsI, q2, q3, q4]
    refine LoopGoal.cut (fun s => ∃ (fr : List Bool), BInv fr [] ∧ s.hp = [fbox fr, [i64 5, .arr 0 0 1 fr.length]] ∧ s.tm 6 = .ref 1 0) ?_ ?_
    · refine ⟨fun m s => ∃ (i : Nat) (fr : List Bool) (L : List (Nat × Nat)), m = L.length ∧ i + L.length ≤ 30 ∧ BInv fr L ∧ s.hp = [fbox fr, [i64 5, .arr 0 0 1 fr.length]] ∧ s.tm 1 = rowsI ys ∧ s.tm 6 = .ref 1 0 ∧ s.tm 7 = .p (.sl 2 (L.map encR)) ∧ s.tm 11 = i64 i, L.length,
        ⟨_, Gh.weakAt 7 (.p (.sl 2 (L.map encR))) (by simp [q4]; exact .fr _ _ _), 0, fr, L, rfl, by omega, I, by simp, by simp [q2, rowsI], by simp [q3], by simp, by simp⟩, ?_⟩
      rintro m ⟨tm', hp'⟩ ⟨i, fr', L', rfl, hi, I', p1, p2, p3, p4, p5⟩
      simp only at p1 p2 p3 p4 p5
      subst p1
      by_cases h0 : 0 < L'.length
      · have h0' : (0 : Int) < L'.length := by omega
        have w6 : IntKind.i64.wrap ((i : Int) + 1) = ((i + 1 : Nat) : Int) := by rw [wI (by omega) (by omega)]; omega
        have hT : List.take L'.length (List.map encR L') = List.map encR L' := List.take_of_length_le (by simp)
        by_cases h1 : i < ys.length
        · have h1' : (i : Int) < ys.length := by omega
          have g1 := getI h1
          generalize hx : ys[i] = x at *
          obtain ⟨t1, t2, t3, t4⟩ := tm_range x h0
          obtain ⟨k, hk⟩ : ∃ k : Nat, (x.tmod L'.length + L'.length).tmod L'.length = k := ⟨((x.tmod L'.length + L'.length).tmod L'.length).toNat, by omega⟩
          have hkl : k < L'.length := by omega
          have w1 : IntKind.i64.wrap (x.tmod L'.length + L'.length) = x.tmod L'.length + L'.length := wI (by omega) (by omega)
          have w2 : IntKind.i64.wrap ((k : Int) + 1) = ((k : Int) + 1) := wI (by omega) (by omega)
          have hz : ¬ ((L'.length : Int) = 0) := by omega
          have hz2 : ¬ (L' = []) := by intro e; subst e; simp at h0
          have hget : L'[k]? = some L'[k] := List.getElem?_eq_getElem hkl
          have g2 := getR hget
          obtain ⟨u1, u2, u3, u4⟩ := I'.give hget
          obtain ⟨o1, o2⟩ := I'.ok _ (List.mem_of_getElem? hget)
          generalize hr : L'[k] = r at *
          have e1 : (k : Int) ≤ L'.length := by omega
          have e2 : k ≤ L'.length := by omega
          have e3 : (k : Int) + 1 ≤ L'.length := by omega
          have e4 : ((k : Int) + 1).toNat = k + 1 := by omega
          have e5 : (0 : Int) ≤ (k : Int) + 1 := by omega
          have e6 : min k L'.length = k := by omega
          have e7 : (k + (L'.length - (k + 1))) * 16 ≤ 140737488355328 := by omega
          have e8 : k + (L'.length - (k + 1)) ≤ 9223372036854775807 := by omega
          simp [rowsI, p2, p3, p4, p5, h0, h0', h1, h1', g1, hx, w1, hk, hz, hz2]
          simp [p3, p4, hkl, g2, hr, encR]
          refine CallGoal.same (give_ok (at_ := 5) (a := 5 + (r.1 : Int)) (l := (r.2 : Int)) (fr := fr') (by omega) (by omega) (by rw [I'.len]; omega) (by omega)) ?_
          rw [u1]
          simp [room, p3, p4, hkl, g2, hr, encR]
          refine CallGoal.same (give_ok (at_ := 5) (a := 5 + (r.1 : Int)) (l := (r.2 : Int)) (fr := setP 5 fr' (5 + (r.1 : Int)) (r.2 : Int) true) (by omega) (by omega) (by rw [setP_len, I'.len]; omega) (by omega)) ?_
          rw [u2, u3]
          simp [room, p3, p4, hkl, g2, hr]
          refine drawWp.intro [] [] mixed (by kernel_rfl) (by kernel_rfl) (by kernel_rfl) ?_
          simp [p3, p4, p5, w2, e1, e2, e3, e4, e5, e6, e7, e8]
          exact .same (L'.take k ++ L'.drop (k + 1)).length (by simp; omega) ⟨i + 1, _, L'.take k ++ L'.drop (k + 1), rfl, by simp; omega, u4, by simp, by simp [p2, rowsI], by simp [p3], by simp [hT], by simp [w6]⟩
        · have h1' : ¬ ((i : Int) < ys.length) := by omega
          have w2 : IntKind.i64.wrap 1 = 1 := by decide
          have hget : L'[0]? = some L'[0] := List.getElem?_eq_getElem h0
          have g2 := getR hget
          obtain ⟨u1, u2, u3, u4⟩ := I'.give hget
          obtain ⟨o1, o2⟩ := I'.ok _ (List.mem_of_getElem? hget)
          generalize hr : L'[0] = r at *
          have e3 : (1 : Int) ≤ L'.length := by omega
          have e7 : (L'.length - 1) * 16 ≤ 140737488355328 := by omega
          have e8 : L'.length - 1 ≤ 9223372036854775807 := by omega
          have hz2 : ¬ (L' = []) := by intro e; subst e; simp at h0
          simp [rowsI, p2, p3, p4, p5, h0, h0', h1, h1', g2, hr, hz2, encR]
          refine CallGoal.same (give_ok (at_ := 5) (a := 5 + (r.1 : Int)) (l := (r.2 : Int)) (fr := fr') (by omega) (by omega) (by rw [I'.len]; omega) (by omega)) ?_
          rw [u1]
          simp [room, p3, p4, h0, g2, hr, encR]
          refine CallGoal.same (give_ok (at_ := 5) (a := 5 + (r.1 : Int)) (l := (r.2 : Int)) (fr := setP 5 fr' (5 + (r.1 : Int)) (r.2 : Int) true) (by omega) (by omega) (by rw [setP_len, I'.len]; omega) (by omega)) ?_
          rw [u2, u3]
          simp [room, p3, p4, h0, g2, hr]
          refine drawWp.intro [] [] mixed (by kernel_rfl) (by kernel_rfl) (by kernel_rfl) ?_
          simp [p3, p4, p5, w2, e3, e7, e8]
          exact .same (L'.take 0 ++ L'.drop (0 + 1)).length (by simp; omega) ⟨i + 1, _, L'.take 0 ++ L'.drop (0 + 1), rfl, by simp; omega, u4, by simp, by simp [p2, rowsI], by simp [p3], by simp [hT], by simp [w6]⟩
      · have h0' : ¬ ((0 : Int) < L'.length) := by omega
        have : L' = [] := List.eq_nil_of_length_eq_zero (by omega)
        subst this
        simp [rowsI, p2, p3, p4, p5]
        exact ⟨fr', I', rfl, by simp [p3]⟩
    · rintro ⟨tm', hp'⟩ ⟨fr', I', p1, p2⟩
      simp only at p1 p2
      subst p1
      have hf := I'.full
      subst hf
      simp [p2]
      refine CallGoal.same (spans_ok (at_ := 5) (fr := List.replicate 200 true) (by omega) (by omega) (by decide)) ?_
      rw [spans_full (by omega)]
      simp [room, rowsS, encS, p2]
      refine CallGoal.same (free_ok (at_ := 5) (fr := List.replicate 200 true) (by omega) (by omega) (by decide)) ?_
      simp [room, rowsS, encS, p2]
      exact .keep (by simp) (.refl _) (by simp) (by simp) (by simp) (by simp)
