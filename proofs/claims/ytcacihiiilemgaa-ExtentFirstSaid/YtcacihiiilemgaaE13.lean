/- Part of the proof: contracts of the functions, walked by the D-machine. No condition. -/
import Derived.Test.YtcacihiiilemgaaE9
import Derived.Test.YtcacihiiilemgaaEP1
set_option linter.unusedSimpArgs false
set_option linter.unusedVariables false
set_option maxHeartbeats 40000000
set_option maxRecDepth 100000
namespace Go.Proofs.Dm
open Go Go.Proofs Go.Proofs.Try
attribute [local simp] takes handsOn isTmp Op.operands Call.operands
def rowsI (xs : List Int) : DV := .p (.sl 1 (xs.map fun x => [.int .i64 x]))
theorem getI {xs : List Int} {i : Nat} (h : i < xs.length) : (xs.map fun x => [PD.int .i64 x])[i]? = some [.int .i64 xs[i]] := by
  rw [List.getElem?_map, List.getElem?_eq_getElem h]; rfl
/-- 1 to 20. -/
def twenty (x : Int) : Nat := (1 + ((x.tmod 20 + 20).tmod 20)).toNat
theorem twenty_eq (x : Int) : (twenty x : Int) = 1 + ((x.tmod 20 + 20).tmod 20) ∧ 1 ≤ twenty x ∧ twenty x ≤ 20 ∧ -20 < x.tmod 20 ∧ x.tmod 20 < 20 := by
  have h1 : x.tmod 20 < 20 := Int.tmod_lt_of_pos x (by omega)
  have h2 : -20 < x.tmod 20 := by
    have := Int.lt_tmod_of_pos x (b := 20) (by omega)
    omega
  have h3 : 0 ≤ (x.tmod 20 + 20).tmod 20 := Int.tmod_nonneg _ (by omega)
  have h4 : (x.tmod 20 + 20).tmod 20 < 20 := Int.tmod_lt_of_pos _ (by omega)
  unfold twenty
  omega
structure FInv (fr : List Bool) (n a : Nat) (want : Int) : Prop where
  len : fr.length = 400
  free : ∀ q, a ≤ q → q < 400 → fr.getD q false = true
  want : (want = -1 ∧ ∀ q, q < a → ¬ allT fr q n) ∨ ∃ p : Nat, want = p ∧ p + n ≤ a ∧ leastAt fr n p
theorem FInv.use {fr : List Bool} {n a : Nat} {want : Int} (I : FInv fr n a want) (k : Nat) (hk : a + k + 1 ≤ 400) (h1 : 1 ≤ n) :
    allP 0 fr ((a : Int) + k) 1 true = true ∧ FInv (setP 0 fr ((a : Int) + k) 1 false) n (a + k + 1) (if want < 0 ∧ (n : Int) ≤ k then (a : Int) else want) := by
  have ha : allP 0 fr ((a : Int) + k) 1 true = true := by
    rw [allP_iff]
    refine ⟨by omega, by omega, by rw [I.len]; omega, fun j hj => ?_⟩
    have e : ((a : Int) + k - 0).toNat + j = a + k := by omega
    rw [e]; exact I.free _ (by omega) (by omega)
  have hg : ∀ q, (setP 0 fr ((a : Int) + k) 1 false).getD q false = if q = a + k then false else fr.getD q false := fun q => by
    rw [setP_getD (b := false) ha]
    have e : ((a : Int) + k - 0).toNat = a + k := by omega
    rw [e]
    by_cases hq : q = a + k
    · subst hq; simp
    · rw [if_neg hq, if_neg (by simp; omega)]
  have down : ∀ q, allT (setP 0 fr ((a : Int) + k) 1 false) q n → allT fr q n := fun q ht j hj => by
    have := ht j hj
    rw [hg] at this
    split at this
    · cases this
    · exact this
  refine ⟨ha, ⟨by rw [setP_len]; exact I.len, fun q h1 h2 => by rw [hg, if_neg (by omega)]; exact I.free q (by omega) h2, ?_⟩⟩
  rcases I.want with ⟨w1, w2⟩ | ⟨p, w1, w2, w3⟩
  · subst w1
    by_cases hn : (n : Int) ≤ k
    · rw [if_pos ⟨by omega, hn⟩]
      refine .inr ⟨a, rfl, by omega, by rw [setP_len, I.len]; omega, fun j hj => ?_, fun q hq ht => ?_⟩
      · rw [hg, if_neg (by omega)]; exact I.free _ (by omega) (by omega)
      · rcases Nat.lt_or_ge q a with h | h
        · exact absurd (down q ht) (w2 q h)
        · exact h
    · rw [if_neg (by omega)]
      refine .inl ⟨rfl, fun q hq ht => ?_⟩
      rcases Nat.lt_or_ge q a with h | h
      · exact w2 q h (down q ht)
      · have := ht (a + k - q) (by omega)
        have e : q + (a + k - q) = a + k := by omega
        rw [e, hg, if_pos rfl] at this
        cases this
  · rw [if_neg (by omega)]
    refine .inr ⟨p, w1, by omega, by rw [setP_len]; exact w3.1, fun j hj => ?_, fun q hq ht => w3.2.2 q (by rw [setP_len] at hq; exact hq) (down q ht)⟩
    rw [hg, if_neg (by omega)]
    exact w3.2.1 j hj
theorem FInv.least {fr : List Bool} {n a : Nat} {want : Int} (I : FInv fr n a want) (h : a + n ≤ 400) : ∃ p : Nat, (if want < 0 then (a : Int) else want) = p ∧ leastAt fr n p := by
  rcases I.want with ⟨w1, w2⟩ | ⟨p, w1, w2, w3⟩
  · refine ⟨a, by rw [if_pos (by omega)], by rw [I.len]; omega, fun j hj => I.free _ (by omega) (by omega), fun q hq ht => ?_⟩
    rcases Nat.lt_or_ge q a with h | h
    · exact absurd ht (w2 q h)
    · exact h
  · exact ⟨p, by rw [if_neg (by omega)]; exact w1, w3⟩
theorem firstl_ok {W0 nb} {xs : List Int} {n : Int} : DCalls ⟨Try.prog, W0, nb⟩ 5 [rowsI xs, i64 n] [] (bl true) [] := by
  refine dcalls_end Try.func5 rfl (by kernel_rfl) 82 Try.ntmps5 #[.tmp 4] rfl (Nat.le_of_ble_eq_true rfl) ?_
  by_cases c1 : n < 1
  · simp [rowsI]
    refine CallGoal.same begun_ok ?_
    simp [c1]
    exact .keep (by simp) (.refl _) (by simp) (by simp) (by simp) (by simp)
  by_cases c2 : 20 < n
  · simp [rowsI]
    refine CallGoal.same begun_ok ?_
    simp [c1, c2]
    exact .keep (by simp) (.refl _) (by simp) (by simp) (by simp) (by simp)
  obtain ⟨k, rfl⟩ : ∃ k : Nat, n = k := ⟨n.toNat, by omega⟩
  have k1 : 1 ≤ k := by omega
  have k2 : k ≤ 20 := by omega
  simp [rowsI]
  refine CallGoal.same begun_ok ?_
  simp [c1, c2]
  refine CallGoal.same (new_ok (at_ := 0) (n := 400) (by omega) (by omega)) ?_
  simp
  let J : St → Prop := fun s => ∃ (fr : List Bool) (a : Nat) (want : Int), FInv fr k a want ∧ a ≤ 252 ∧ s.hp = [fbox fr, [i64 0, .arr 0 0 1 fr.length]] ∧ s.tm 1 = i64 k ∧ s.tm 6 = .ref 1 0 ∧ s.tm 7 = i64 a ∧ s.tm 8 = i64 want
  refine LoopGoal.cut J ?_ ?_
  · refine ⟨fun m s => ∃ (i : Nat) (fr : List Bool) (a : Nat) (want : Int), m = 12 - i ∧ i ≤ 12 ∧ FInv fr k a want ∧ a ≤ 21 * i ∧ s.hp = [fbox fr, [i64 0, .arr 0 0 1 fr.length]] ∧ s.tm 0 = rowsI xs ∧ s.tm 1 = i64 k ∧ s.tm 6 = .ref 1 0 ∧ s.tm 7 = i64 a ∧ s.tm 8 = i64 want ∧ s.tm 9 = i64 i, 12,
      .here ⟨0, List.replicate 400 true, 0, -1, rfl, by omega, ⟨by simp, fun q _ hq => by rw [List.getD_eq_getElem?_getD, List.getElem?_replicate, if_pos hq]; rfl, .inl ⟨rfl, fun q hq => by omega⟩⟩, by omega, by simp, by simp [rowsI], by simp, by simp, by simp, by simp, by simp⟩, ?_⟩
    rintro m ⟨tm, hp⟩ ⟨i, fr, a, want, rfl, hi, I, ha, q1, q2, q3, q4, q5, q6, q7⟩
    simp only at q1 q2 q3 q4 q5 q6 q7
    subst q1
    by_cases h1 : i < xs.length
    · have h1' : (i : Int) < xs.length := by omega
      by_cases h2 : i < 12
      · have h2' : (i : Int) < 12 := by omega
        have g1 := getI h1
        obtain ⟨t1, t2, t3, t4, t5⟩ := twenty_eq xs[i]
        generalize hx : xs[i] = x at *
        generalize hb : twenty x = b at *
        have u := I.use b (by omega) k1
        have w1 : IntKind.i64.wrap (x.tmod 20 + 20) = x.tmod 20 + 20 := wI (by omega) (by omega)
        have w2 : IntKind.i64.wrap (1 + (x.tmod 20 + 20).tmod 20) = b := by rw [wI (by omega) (by omega)]; omega
        have w3 : IntKind.i64.wrap ((a : Int) + b) = (a : Int) + b := wI (by omega) (by omega)
        have w4 : IntKind.i64.wrap ((b : Int) + 1) = (b : Int) + 1 := wI (by omega) (by omega)
        have w5 : IntKind.i64.wrap ((a : Int) + ((b : Int) + 1)) = ((a + b + 1 : Nat) : Int) := by rw [wI (by omega) (by omega)]; omega
        have w6 : IntKind.i64.wrap ((i : Int) + 1) = ((i + 1 : Nat) : Int) := by rw [wI (by omega) (by omega)]; omega
        by_cases h3 : want < 0
        · by_cases h4 : (k : Int) ≤ b
          · have h4' : k ≤ b := by omega
            have hw : (if want < 0 ∧ (k : Int) ≤ b then (a : Int) else want) = a := if_pos ⟨h3, h4⟩
            rw [hw] at u
            simp [rowsI, q2, q3, q4, q5, q6, q7, h1, h2, h1', h2', g1, hx, w1, w2, w3, w4, h3, h4, h4']
            refine CallGoal.same (use_ok (at_ := 0) (a := (a : Int) + b) (l := 1) (fr := fr) (by omega) (by omega) (by rw [I.len]; omega) (by omega)) ?_
            rw [u.1]
            simp [room, q5, q7, w4, w5, w6]
            exact .same (12 - (i + 1)) (by omega) ⟨i + 1, rfl, by omega, _, a + b + 1, _, u.2, by omega, by simp, by simp [q2, rowsI], by simp [q3], by simp [q4], by simp [w5], by simp, by simp [w6]⟩
          · have h4' : ¬ (k ≤ b) := by omega
            have hw : (if want < 0 ∧ (k : Int) ≤ b then (a : Int) else want) = want := if_neg (fun q => h4 q.2)
            rw [hw] at u
            simp [rowsI, q2, q3, q4, q5, q6, q7, h1, h2, h1', h2', g1, hx, w1, w2, w3, w4, h3, h4, h4']
            refine CallGoal.same (use_ok (at_ := 0) (a := (a : Int) + b) (l := 1) (fr := fr) (by omega) (by omega) (by rw [I.len]; omega) (by omega)) ?_
            rw [u.1]
            simp [room, q5, q7, w4, w5, w6]
            exact .same (12 - (i + 1)) (by omega) ⟨i + 1, rfl, by omega, _, a + b + 1, _, u.2, by omega, by simp, by simp [q2, rowsI], by simp [q3], by simp [q4], by simp [w5], by simp [q6], by simp [w6]⟩
        · have hw : (if want < 0 ∧ (k : Int) ≤ b then (a : Int) else want) = want := if_neg (fun q => h3 q.1)
          rw [hw] at u
          simp [rowsI, q2, q3, q4, q5, q6, q7, h1, h2, h1', h2', g1, hx, w1, w2, w3, w4, h3]
          refine CallGoal.same (use_ok (at_ := 0) (a := (a : Int) + b) (l := 1) (fr := fr) (by omega) (by omega) (by rw [I.len]; omega) (by omega)) ?_
          rw [u.1]
          simp [room, q5, q7, w4, w5, w6]
          exact .same (12 - (i + 1)) (by omega) ⟨i + 1, rfl, by omega, _, a + b + 1, _, u.2, by omega, by simp, by simp [q2, rowsI], by simp [q3], by simp [q4], by simp [w5], by simp [q6], by simp [w6]⟩
      · have h2' : ¬ ((i : Int) < 12) := by omega
        simp [rowsI, q2, q3, q4, q5, q6, q7, h1, h2, h1', h2']
        exact ⟨fr, a, want, I, by omega, rfl, by simp [q3], by simp [q4], by simp [q5], by simp [q6]⟩
    · have h1' : ¬ ((i : Int) < xs.length) := by omega
      simp [rowsI, q2, q3, q4, q5, q6, q7, h1, h1']
      exact ⟨fr, a, want, I, by omega, rfl, by simp [q3], by simp [q4], by simp [q5], by simp [q6]⟩
  · rintro ⟨tm, hp⟩ ⟨fr, a, want, I, ha, q1, q2, q3, q4, q5⟩
    simp only at q1 q2 q3 q4 q5
    subst q1
    obtain ⟨p, e, hl⟩ := I.least (by omega)
    have ht := take_some (at_ := 0) k1 hl
    simp only [Int.zero_add] at ht
    by_cases h3 : want < 0
    · rw [if_pos h3] at e
      have e' : a = p := by omega
      subst e'
      simp [q2, q3, q4, q5, h3]
      refine CallGoal.same (take_ok (at_ := 0) (n := (k : Int)) (fr := fr) (by omega) (by omega) (by rw [I.len]; omega)) ?_
      rw [ht.1]
      simp [room, q2, q3, q4, q5]
      exact .keep (by simp) (.refl _) (by simp) (by simp) (by simp) (by simp)
    · rw [if_neg h3] at e
      subst e
      simp [q2, q3, q4, q5, h3]
      refine CallGoal.same (take_ok (at_ := 0) (n := (k : Int)) (fr := fr) (by omega) (by omega) (by rw [I.len]; omega)) ?_
      rw [ht.1]
      simp [room, q2, q3, q4, q5]
      exact .keep (by simp) (.refl _) (by simp) (by simp) (by simp) (by simp)
