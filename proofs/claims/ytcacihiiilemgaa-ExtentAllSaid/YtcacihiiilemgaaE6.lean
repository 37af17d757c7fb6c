/- Part of the proof: contracts of the functions, walked by the D-machine. No condition. -/
import Derived.Test.YtcacihiiilemgaaE5
set_option linter.unusedSimpArgs false
set_option linter.unusedVariables false
set_option maxHeartbeats 4000000
namespace Go.Proofs.Dm
open Go Go.Proofs Go.Proofs.Try
attribute [local simp] takes handsOn isTmp Op.operands Call.operands
def sumS : List Sp → Int
  | [] => 0
  | r :: l => r.2 + sumS l
theorem sumS_app (a b : List Sp) : sumS (a ++ b) = sumS a + sumS b := by
  induction a with
  | nil => simp [sumS]
  | cons r a ih => simp [sumS, ih]; omega
theorem spansN_sum (at_ : Int) (fr : List Bool) : ∀ i, i ≤ fr.length → sumS (spansN at_ fr i) = ((fr.take i).count true : Int)
  | 0, _ => by simp [spansN, sumS]
  | i + 1, hi => by
    have ih := spansN_sum at_ fr i (by omega)
    have hget : fr[i]? = some fr[i] := List.getElem?_eq_getElem (by omega)
    have hgd : fr.getD i false = fr[i] := by rw [List.getD_eq_getElem?_getD, hget]; rfl
    have ht : fr.take (i + 1) = fr.take i ++ [fr[i]] := by rw [List.take_add_one, hget]; rfl
    rw [ht, List.count_append]
    simp only [spansN, hgd]
    split
    · rename_i hf; rw [hf, ih]; simp
    · rename_i hf
      have hf : fr[i] = true := by simpa using hf
      rw [hf]
      split
      · rename_i hp
        obtain ⟨l, r, e⟩ := (spansN_facts at_ fr i).2.2 hp.1 hp.2
        rw [e] at ih ⊢
        rw [bump_app]
        rw [sumS_app] at ih ⊢
        simp [sumS] at ih ⊢
        omega
      · rw [sumS_app]
        simp [sumS]
        omega
theorem get_map {l : List Sp} {i : Nat} (h : i < l.length) : (l.map encS)[i]? = some (encS l[i]) := by
  rw [List.getElem?_map, List.getElem?_eq_getElem h]; rfl
theorem sumS_take {l : List Sp} {i : Nat} (h : i < l.length) : sumS (l.take (i + 1)) = sumS (l.take i) + l[i].2 := by
  rw [List.take_add_one, List.getElem?_eq_getElem h, sumS_app]; simp [sumS]
theorem sumS_le {l : List Sp} (h : ∀ r ∈ l, 1 ≤ r.2) : ∀ i, 0 ≤ sumS (l.take i) ∧ sumS (l.take i) ≤ sumS l := by
  intro i
  have pos : ∀ l : List Sp, (∀ r ∈ l, 1 ≤ r.2) → 0 ≤ sumS l := by
    intro l hl
    induction l with
    | nil => simp [sumS]
    | cons r l ih =>
      have := hl r (by simp)
      have := ih (fun q hq => hl q (by simp [hq]))
      simp [sumS]; omega
  have h1 := pos (l.take i) (fun r hr => h r (List.mem_of_mem_take hr))
  have h2 := pos (l.drop i) (fun r hr => h r (List.mem_of_mem_drop hr))
  have h3 : sumS l = sumS (l.take i) + sumS (l.drop i) := by rw [← sumS_app, List.take_append_drop]
  omega
theorem free_ok {W0 nb} {at_ : Int} {fr : List Bool} (h1 : 0 ≤ at_) (h2 : at_ ≤ 100000) (h3 : fr.length ≤ 100000) :
    DCalls ⟨Try.prog, W0, nb⟩ 16 [.ref 0 0] (room at_ fr) (i64 (fr.count true)) (room at_ fr) := by
  have hsum : sumS (spansP at_ fr) = (fr.count true : Int) := by
    have := spansN_sum at_ fr fr.length (Nat.le_refl _)
    rw [List.take_length] at this; exact this
  have hcnt : fr.count true ≤ fr.length := List.count_le_length
  obtain ⟨f1, f2, _⟩ := spansN_facts at_ fr fr.length
  have hle := sumS_le (l := spansP at_ fr) (fun r hr => (f1 r hr).1)
  rw [← hsum]
  have f2' : (spansP at_ fr).length ≤ fr.length := f2
  generalize hL : spansP at_ fr = L at *
  refine dcalls_end Try.func16 rfl (by kernel_rfl) 19 Try.ntmps16 #[.tmp 2] rfl (Nat.le_of_ble_eq_true rfl) ?_
  simp [room]
  refine CallGoal.same (spans_ok h1 h2 h3) ?_
  rw [hL]
  simp [room, rowsS]
  refine ⟨fun m s => ∃ i, m = L.length - i ∧ i ≤ L.length ∧ s.hp = room at_ fr ∧ s.tm 3 = i64 (sumS (L.take i)) ∧ s.tm 7 = rowsS L ∧ s.tm 8 = i64 L.length ∧ s.tm 9 = i64 i, L.length, .here ⟨0, rfl, by omega, by simp [room], by simp [sumS], by simp [rowsS], by simp, by simp⟩, ?_⟩
  rintro m ⟨tm, hp⟩ ⟨i, rfl, hil, q1, q2, q3, q4, q5⟩
  simp only at q1 q2 q3 q4 q5
  subst q1
  by_cases hi : i < L.length
  · have hi' : ((i : Int) < L.length) := by omega
    have g1 := get_map hi
    have g2 := sumS_take hi
    have g3 := hle (i + 1)
    have g4 := hle i
    have w1 : IntKind.i64.wrap (sumS (L.take i) + L[i].2) = sumS (L.take (i + 1)) := by rw [wI (by omega) (by omega)]; omega
    have w3 : IntKind.i64.wrap ((i : Int) + 1) = ((i + 1 : Nat) : Int) := by rw [wI (by omega) (by omega)]; omega
    simp [room, rowsS, q2, q3, q4, q5, hi, hi', g1, encS, w1]
    refine .drop (L.length - (i + 1)) (by omega) 2 (by omega) (by simp) (by simp) ⟨i + 1, rfl, by omega, by simp [dropSt, room], by simp [dropSt, dropD], by simp [dropSt, dropD, q3, rowsS], by simp [dropSt, dropD, q4], by simp [dropSt, dropD, w3]⟩
  · have hi' : ¬ ((i : Int) < L.length) := by omega
    have : i = L.length := by omega
    subst this
    rw [List.take_length] at q2
    simp [room, q2, q3, q4, q5, hi']
    exact .keep (by simp) (.refl _) (by simp) (by simp) (by simp) (by simp)
theorem spans_no {W0 nb} {k : Int} : DCalls ⟨Try.prog, W0, nb⟩ 15 [.ref 0 0] [[i64 k, .p (.sl 1 [])]] (rowsS []) [[i64 k, .p (.sl 1 [])]] := by
  refine dcalls_end Try.func15 rfl (by kernel_rfl) 56 Try.ntmps15 #[.tmp 2] rfl (Nat.le_of_ble_eq_true rfl) ?_
  simp
  refine LoopGoal.cut (fun s => s.hp = [[i64 k, .p (.sl 1 [])]] ∧ s.tm 3 = .own 30 2 []) ?_ ?_
  · refine ⟨fun m s => s.hp = [[i64 k, .p (.sl 1 [])]] ∧ s.tm 3 = .own 30 2 [] ∧ s.tm 12 = i64 0 ∧ s.tm 13 = i64 0, 1, .here ⟨by simp, by simp, by simp, by simp⟩, ?_⟩
    rintro m ⟨tm, hp⟩ ⟨q1, q2, q3, q4⟩
    simp only at q1 q2 q3 q4
    subst q1
    simp [q2, q3, q4]
  · rintro ⟨tm, hp⟩ ⟨q1, q2⟩
    simp only at q1 q2
    subst q1
    simp [q2]
    exact .keep (rr := .own 30 2 []) (by simp) (.fr _ _ _) (by simp) (by simp) (by simp [rowsS]) (by simp)
theorem free_none {W0 nb} {k : Int} : DCalls ⟨Try.prog, W0, nb⟩ 16 [.ref 0 0] [[i64 k, .p (.sl 1 [])]] (i64 0) [[i64 k, .p (.sl 1 [])]] := by
  refine dcalls_end Try.func16 rfl (by kernel_rfl) 19 Try.ntmps16 #[.tmp 2] rfl (Nat.le_of_ble_eq_true rfl) ?_
  simp
  refine CallGoal.same spans_no ?_
  simp [rowsS]
  refine ⟨fun m s => s.hp = [[i64 k, .p (.sl 1 [])]] ∧ s.tm 3 = i64 0 ∧ s.tm 8 = i64 0 ∧ s.tm 9 = i64 0, 1, .here ⟨by simp, by simp, by simp, by simp⟩, ?_⟩
  rintro m ⟨tm, hp⟩ ⟨q1, q2, q3, q4⟩
  simp only at q1 q2 q3 q4
  subst q1
  simp [q2, q3, q4]
  exact .keep (by simp) (.refl _) (by simp) (by simp) (by simp) (by simp)
theorem free_nil {W0 nb} : DCalls ⟨Try.prog, W0, nb⟩ 16 [.p .nilp] [] (i64 0) [] := by
  refine dcalls_end Try.func16 rfl (by kernel_rfl) 19 Try.ntmps16 #[.tmp 2] rfl (Nat.le_of_ble_eq_true rfl) ?_
  simp
  refine CallGoal.same spans_nil ?_
  simp [rowsS]
  refine ⟨fun m s => s.hp = [] ∧ s.tm 3 = i64 0 ∧ s.tm 8 = i64 0 ∧ s.tm 9 = i64 0, 1, .here ⟨by simp, by simp, by simp, by simp⟩, ?_⟩
  rintro m ⟨tm, hp⟩ ⟨q1, q2, q3, q4⟩
  simp only at q1 q2 q3 q4
  subst q1
  simp [q2, q3, q4]
  exact .keep (by simp) (.refl _) (by simp) (by simp) (by simp) (by simp)

/-- The first of rows that is long enough. -/
def firstS (L : List Sp) (n : Int) : Option Sp := if 1 ≤ n then L.find? (fun r => decide (n ≤ r.2)) else none
def takeR (at_ : Int) (fr : List Bool) (n : Int) : DV := match firstS (spansP at_ fr) n with
  | some r => .tup [.agg [i64 r.1, i64 n], bl (allP at_ fr r.1 n true)]
  | none => .tup [.agg [i64 0, i64 0], bl false]
def takeF (at_ : Int) (fr : List Bool) (n : Int) : List Bool := match firstS (spansP at_ fr) n with
  | some r => setP at_ fr r.1 n false
  | none => fr
theorem take_ok {W0 nb} {at_ n : Int} {fr : List Bool} (h1 : 0 ≤ at_) (h2 : at_ ≤ 100000) (h3 : fr.length ≤ 100000) :
    DCalls ⟨Try.prog, W0, nb⟩ 11 [.ref 0 0, i64 n] (room at_ fr) (takeR at_ fr n) (room at_ (takeF at_ fr n)) := by
  obtain ⟨f1, f2, _⟩ := spansN_facts at_ fr fr.length
  have f2' : (spansP at_ fr).length ≤ fr.length := f2
  have f1' : ∀ r ∈ spansP at_ fr, 1 ≤ r.2 ∧ r.2 ≤ fr.length ∧ at_ ≤ r.1 ∧ r.1 + r.2 ≤ at_ + fr.length := f1
  unfold takeR takeF
  generalize hL : spansP at_ fr = L at *
  refine dcalls_end Try.func11 rfl (by kernel_rfl) 31 Try.ntmps11 #[.cell 4 30, .tmp 5] rfl (Nat.le_of_ble_eq_true rfl) ?_
  simp [room]
  refine CallGoal.same (spans_ok h1 h2 h3) ?_
  rw [hL]
  simp [room, rowsS]
  refine ⟨fun m s => ∃ i, m = L.length - i ∧ i ≤ L.length ∧ firstS L n = firstS (L.drop i) n ∧ s.hp = [[i64 at_, .arr 1 0 1 fr.length], fbox fr, [i64 0, i64 0]] ∧ s.tm 0 = .ref 0 0 ∧ s.tm 1 = i64 n ∧ s.tm 4 = .ref 2 0 ∧ s.tm 5 = bl false ∧ s.tm 9 = rowsS L ∧ s.tm 10 = i64 L.length ∧ s.tm 11 = i64 i, L.length,
    .here ⟨0, rfl, by omega, rfl, by simp, by simp, by simp, by simp, by simp, by simp [rowsS], by simp, by simp⟩, ?_⟩
  rintro m ⟨tm, hp⟩ ⟨i, rfl, hil, hf, q1, q2, q3, q4, q5, q6, q7, q8⟩
  simp only at q1 q2 q3 q4 q5 q6 q7 q8
  subst q1
  by_cases hi : i < L.length
  · have hi' : ((i : Int) < L.length) := by omega
    have g1 := get_map hi
    have w3 : IntKind.i64.wrap ((i : Int) + 1) = ((i + 1 : Nat) : Int) := by rw [wI (by omega) (by omega)]; omega
    have hd : L.drop i = L[i] :: L.drop (i + 1) := List.drop_eq_getElem_cons hi
    have fr1 := f1' L[i] (List.getElem_mem hi)
    have miss : (¬ (1 ≤ n) ∨ ¬ (n ≤ L[i].2)) → firstS L n = firstS (L.drop (i + 1)) n := by
      intro h
      rw [hf, hd]
      unfold firstS
      by_cases h1n : 1 ≤ n
      · rw [if_pos h1n, if_pos h1n]
        have : ¬ (n ≤ L[i].2) := by rcases h with h | h; exact absurd h1n h; exact h
        rw [List.find?_cons_of_neg (by simpa using this)]
      · rw [if_neg h1n, if_neg h1n]
    by_cases c1 : 1 ≤ n
    · by_cases c2 : n ≤ L[i].2
      · have hit : firstS L n = some L[i] := by
          rw [hf, hd]
          unfold firstS
          rw [if_pos c1, List.find?_cons_of_pos (by simpa using c2)]
        rw [hit]
        simp [rowsS, q2, q3, q4, q5, q6, q7, q8, hi, hi', g1, encS, c1, c2]
        refine drawWp.intro [(0, 2), (0, 3)] [2, 3] mixed (by kernel_rfl) (by kernel_rfl) (by kernel_rfl) ?_
        simp [q2, q3, q4, q5]
        refine CallGoal.same (use_ok h1 h2 h3 (by omega)) ?_
        simp [room, q2, q3, q4, q5]
        refine ⟨by simp [pairsOK, compatDyn, lowOK, allLt, labD, skips, guardD, looksG, guardSlot, looksD, goneD, eatsT, eats, goneL, rdD, wrD, simpleD, anyOwn, disj, q2, q3, q4, q5], by simp [pairsOK, compatDyn, lowOK, allLt, labD, skips, guardD, looksG, guardSlot, looksD, goneD, eatsT, eats, goneL, rdD, wrD, simpleD, anyOwn, disj, q2, q3, q4, q5], ?_⟩
        simp [q2, q3, q4, q5]
        exact .keep (by simp [q2, q3, q4, q5]) (.refl _) (by simp) (by simp [q2, q3, q4, q5]) (by simp [q2, q3, q4, q5]) (by simp [q2, q3, q4, q5])
      · simp [rowsS, q2, q3, q4, q5, q6, q7, q8, hi, hi', g1, encS, c1, c2]
        refine .drop (L.length - (i + 1)) (by omega) 3 (by omega) (by simp) (by simp) ⟨i + 1, rfl, by omega, miss (.inr c2), by simp [dropSt], by simp [dropSt, dropD, q2], by simp [dropSt, dropD, q3], by simp [dropSt, dropD, q4], by simp [dropSt, dropD, q5], by simp [dropSt, dropD, q6, rowsS], by simp [dropSt, dropD, q7], by simp [dropSt, dropD, w3]⟩
    · simp [rowsS, q2, q3, q4, q5, q6, q7, q8, hi, hi', g1, encS, c1]
      refine .drop (L.length - (i + 1)) (by omega) 3 (by omega) (by simp) (by simp) ⟨i + 1, rfl, by omega, miss (.inl c1), by simp [dropSt], by simp [dropSt, dropD, q2], by simp [dropSt, dropD, q3], by simp [dropSt, dropD, q4], by simp [dropSt, dropD, q5], by simp [dropSt, dropD, q6, rowsS], by simp [dropSt, dropD, q7], by simp [dropSt, dropD, w3]⟩
  · have hi' : ¬ ((i : Int) < L.length) := by omega
    have no : firstS L n = none := by
      rw [hf, List.drop_of_length_le (by omega)]
      unfold firstS
      split <;> rfl
    rw [no]
    simp [rowsS, q2, q3, q4, q5, q6, q7, q8, hi']
    exact .keep (by simp [q2, q3, q4, q5]) (.refl _) (by simp) (by simp [q2, q3, q4, q5]) (by simp [q2, q3, q4, q5]) (by simp [q2, q3, q4, q5])
theorem take_nil {W0 nb} {n : Int} : DCalls ⟨Try.prog, W0, nb⟩ 11 [.p .nilp, i64 n] [] (.tup [.agg [i64 0, i64 0], bl false]) [] := by
  refine dcalls_end Try.func11 rfl (by kernel_rfl) 31 Try.ntmps11 #[.cell 4 30, .tmp 5] rfl (Nat.le_of_ble_eq_true rfl) ?_
  simp
  refine CallGoal.same spans_nil ?_
  simp [rowsS]
  refine ⟨fun m s => s.hp = [[i64 0, i64 0]] ∧ s.tm 4 = .ref 0 0 ∧ s.tm 5 = bl false ∧ s.tm 10 = i64 0 ∧ s.tm 11 = i64 0, 1, .here ⟨by simp, by simp, by simp, by simp, by simp⟩, ?_⟩
  rintro m ⟨tm, hp⟩ ⟨q1, q2, q3, q4, q5⟩
  simp only at q1 q2 q3 q4 q5
  subst q1
  simp [q2, q3, q4, q5]
  exact .keep (by simp [q2, q3, q4, q5]) (.refl _) (by simp) (by simp [q2, q3, q4, q5]) (by simp [q2, q3, q4, q5]) (by simp [q2, q3, q4, q5])
