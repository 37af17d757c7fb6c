/- Part of the proof: contracts of the functions, walked by the D-machine. No condition. -/
import Derived.Test.YtcacihiiilemgaaE4
set_option linter.unusedSimpArgs false
set_option linter.unusedVariables false
namespace Go.Proofs.Dm
open Go Go.Proofs Go.Proofs.Try
attribute [local simp] takes handsOn isTmp Op.operands Call.operands
abbrev Sp := Int × Int
def encS (r : Sp) : List PD := [.int .i64 r.1, .int .i64 r.2]
def sbox (l : List Sp) : List DV := flatP (l.map encS)
@[simp] theorem sbox_len (l : List Sp) : (sbox l).length = l.length * 2 := by
  unfold sbox
  rw [flatP_len (z := 2) (by intro x hx; obtain ⟨r, _, rfl⟩ := List.mem_map.1 hx; rfl)]
  simp
theorem sbox_app (a b : List Sp) : sbox (a ++ b) = sbox a ++ sbox b := by simp [sbox, flatP]
theorem sbox_cons (r : Sp) (l : List Sp) : sbox (r :: l) = i64 r.1 :: i64 r.2 :: sbox l := rfl
@[simp] theorem sbox_refs (l : List Sp) : refsDs (sbox l) = [] := by
  induction l with
  | nil => rfl
  | cons r l ih => rw [sbox_cons]; simpa using ih
@[simp] theorem sbox_own (l : List Sp) : hasOwns (sbox l) = false := by
  induction l with
  | nil => rfl
  | cons r l ih => rw [sbox_cons]; simpa using ih
@[simp] theorem sbox_solid (l : List Sp) : solids (sbox l) = true := by
  induction l with
  | nil => rfl
  | cons r l ih => rw [sbox_cons]; simpa using ih
@[simp] theorem sbox_map (f : Nat → Nat) (l : List Sp) : mapRefs f (sbox l) = sbox l := by
  induction l with
  | nil => rfl
  | cons r l ih => rw [sbox_cons]; simpa using ih
@[simp] theorem sbox_nil (l : List Sp) : (sbox l = []) = (l = []) := by cases l <;> simp [sbox_cons]; rfl
@[simp] theorem sbox_flat (a b : Int) : flatP [[PD.int .i64 a, PD.int .i64 b]] = sbox [(a, b)] := rfl
theorem sbox_app' (a b : List Sp) : sbox a ++ sbox b = sbox (a ++ b) := (sbox_app a b).symm
/-- The last one, longer by one. -/
def bump (l : List Sp) : List Sp := match l.getLast? with
  | some r => l.dropLast ++ [(r.1, r.2 + 1)]
  | none => []
theorem bump_app (l : List Sp) (r : Sp) : bump (l ++ [r]) = l ++ [(r.1, r.2 + 1)] := by simp [bump]
/-- The free rows of the first i. -/
def spansN (at_ : Int) (fr : List Bool) : Nat → List Sp
  | 0 => []
  | i + 1 => if fr.getD i false = false then spansN at_ fr i else if 0 < i ∧ fr.getD (i - 1) false = true then bump (spansN at_ fr i) else spansN at_ fr i ++ [(at_ + i, 1)]
def spansP (at_ : Int) (fr : List Bool) : List Sp := spansN at_ fr fr.length
theorem spansN_facts (at_ : Int) (fr : List Bool) : ∀ i, (∀ r ∈ spansN at_ fr i, 1 ≤ r.2 ∧ r.2 ≤ i ∧ at_ ≤ r.1 ∧ r.1 + r.2 ≤ at_ + i) ∧ (spansN at_ fr i).length ≤ i ∧ (0 < i → fr.getD (i - 1) false = true → ∃ l r, spansN at_ fr i = l ++ [r])
  | 0 => by simp [spansN]
  | i + 1 => by
    obtain ⟨h1, h2, h3⟩ := spansN_facts at_ fr i
    simp only [spansN, Nat.add_sub_cancel]
    split
    · rename_i hf
      refine ⟨fun r hr => ?_, by omega, fun _ ht => by rw [hf] at ht; cases ht⟩
      have := h1 r hr
      omega
    · split
      · rename_i hf hp
        obtain ⟨l, r, e⟩ := h3 hp.1 hp.2
        rw [e, bump_app]
        rw [e] at h1 h2
        simp at h2
        refine ⟨fun q hq => ?_, by simp; omega, fun _ _ => ⟨_, _, rfl⟩⟩
        rcases List.mem_append.1 hq with q1 | q1
        · have := h1 q (by simp [q1]); omega
        · simp at q1
          subst q1
          have := h1 r (by simp)
          simp only; omega
      · refine ⟨fun q hq => ?_, by simp; omega, fun _ _ => ⟨_, _, rfl⟩⟩
        rcases List.mem_append.1 hq with q1 | q1
        · have := h1 q q1; omega
        · simp at q1; subst q1; simp only; omega
def rowsS (l : List Sp) : DV := .p (.sl 2 (l.map encS))
theorem spans_nil {W0 nb} : DCalls ⟨Try.prog, W0, nb⟩ 15 [.p .nilp] [] (rowsS []) [] := by
  refine dcalls_end Try.func15 rfl (by kernel_rfl) 56 Try.ntmps15 #[.tmp 2] rfl (Nat.le_of_ble_eq_true rfl) ?_
  simp
  exact .keep (rr := .own 30 2 []) (by simp) (.fr _ _ _) (by simp) (by simp) (by simp [rowsS]) (by simp)
theorem spans_none {W0 nb} {k : Int} : DCalls ⟨Try.prog, W0, nb⟩ 15 [.ref 0 0] [[i64 k, .own 4 1 []]] (rowsS []) [[i64 k, .own 4 1 []]] := by
  refine dcalls_end Try.func15 rfl (by kernel_rfl) 56 Try.ntmps15 #[.tmp 2] rfl (Nat.le_of_ble_eq_true rfl) ?_
  simp
  refine LoopGoal.cut (fun s => s.hp = [[i64 k, .own 4 1 []]] ∧ s.tm 3 = .own 30 2 []) ?_ ?_
  · refine ⟨fun m s => s.hp = [[i64 k, .own 4 1 []]] ∧ s.tm 3 = .own 30 2 [] ∧ s.tm 12 = i64 0 ∧ s.tm 13 = i64 0, 1, .here ⟨by simp, by simp, by simp, by simp⟩, ?_⟩
    rintro m ⟨tm, hp⟩ ⟨q1, q2, q3, q4⟩
    simp only at q1 q2 q3 q4
    subst q1
    simp [q2, q3, q4]
  · rintro ⟨tm, hp⟩ ⟨q1, q2⟩
    simp only at q1 q2
    subst q1
    simp [q2]
    exact .keep (rr := .own 30 2 []) (by simp) (.fr _ _ _) (by simp) (by simp) (by simp [rowsS]) (by simp)
set_option maxHeartbeats 4000000 in
theorem spans_ok {W0 nb} {at_ : Int} {fr : List Bool} (h1 : 0 ≤ at_) (h2 : at_ ≤ 100000) (h3 : fr.length ≤ 100000) :
    DCalls ⟨Try.prog, W0, nb⟩ 15 [.ref 0 0] (room at_ fr) (rowsS (spansP at_ fr)) (room at_ fr) := by
  refine dcalls_end Try.func15 rfl (by kernel_rfl) 56 Try.ntmps15 #[.tmp 2] rfl (Nat.le_of_ble_eq_true rfl) ?_
  simp [room]
  refine LoopGoal.cut (fun s => (spansP at_ fr = [] ∧ s.hp = room at_ fr ∧ s.tm 3 = .mt 30 2) ∨ (spansP at_ fr ≠ [] ∧ s.hp = room at_ fr ++ [sbox (spansP at_ fr)] ∧ s.tm 3 = .arr 2 0 2 (spansP at_ fr).length)) ?_ ?_
  · refine ⟨fun m s => ∃ i, m = fr.length - i ∧ i ≤ fr.length ∧ ((spansN at_ fr i = [] ∧ s.hp = room at_ fr ∧ s.tm 3 = .mt 30 2) ∨ (spansN at_ fr i ≠ [] ∧ s.hp = room at_ fr ++ [sbox (spansN at_ fr i)] ∧ s.tm 3 = .arr 2 0 2 (spansN at_ fr i).length)) ∧
        s.tm 0 = .ref 0 0 ∧ s.tm 11 = .arr 1 0 1 fr.length ∧ s.tm 12 = i64 fr.length ∧ s.tm 13 = i64 i, fr.length, ?_, ?_⟩
    · refine ⟨_, Gh.weakAt 3 (.mt 30 2) (by simp; exact .ownmt _ _), 0, rfl, by omega, .inl ⟨rfl, by simp [room], by simp⟩, by simp, by simp, by simp, by simp⟩
    rintro m ⟨tm, hp⟩ ⟨i, rfl, hil, hcase, q2, q3, q4, q5⟩
    simp only at q2 q3 q4 q5 hcase
    obtain ⟨f1, f2, f3⟩ := spansN_facts at_ fr i
    by_cases hi : i < fr.length
    · have hi' : ((i : Int) < fr.length) := by omega
      have hget : fr[i]? = some fr[i] := List.getElem?_eq_getElem hi
      have hgd : fr.getD i false = fr[i] := by rw [List.getD_eq_getElem?_getD, hget]; rfl
      have ht1 := take1 hget
      have w3 : IntKind.i64.wrap ((i : Int) + 1) = ((i + 1 : Nat) : Int) := by rw [wI (by omega) (by omega)]; omega
      have w4 : IntKind.i64.wrap (at_ + (i : Int)) = at_ + i := wI (by omega) (by omega)
      have e1 : i + 1 ≤ fr.length := by omega
      have e2 : ¬ (fr = []) := by intro e; subst e; simp at hi
      -- the element ahead
      have hprev : 0 < i → ∃ c, fr[i - 1]? = some c ∧ (fr.drop (i - 1)).take 1 = [c] ∧ fr.getD (i - 1) false = c ∧ IntKind.i64.wrap ((i : Int) - 1) = ((i : Int) - 1) ∧ ((i : Int) - 1).toNat = i - 1 ∧ i - 1 < fr.length ∧ i - 1 + 1 ≤ fr.length ∧ (1 : Int) ≤ i := fun h0 => by
        have hg : fr[i - 1]? = some (fr[i - 1]'(by omega)) := List.getElem?_eq_getElem (by omega)
        exact ⟨_, hg, take1 hg, by rw [List.getD_eq_getElem?_getD, hg]; rfl, wI (by omega) (by omega), by omega, by omega, by omega, by omega⟩
      rcases hcase with ⟨s1, s2, s3⟩ | ⟨s1, s2, s3⟩
      · subst s2
        cases hb : fr[i] with
        | false =>
          have hn : spansN at_ fr (i + 1) = [] := by simp only [spansN, hgd, hb, if_true]; exact s1
          simp [room, s3, q2, q3, q4, q5, hi, hi', ht1, e1, e2, hb]
          exact .same (fr.length - (i + 1)) (by omega) ⟨i + 1, rfl, by omega, .inl ⟨hn, rfl, by simp [s3]⟩, by simp [q2], by simp [q3], by simp [q4], by simp [w3]⟩
        | true =>
          have hn : spansN at_ fr (i + 1) = [(at_ + i, 1)] := by
            have : ¬ (0 < i ∧ fr.getD (i - 1) false = true) := fun q => by
              obtain ⟨l, r, e⟩ := f3 q.1 q.2
              rw [s1] at e; simp at e
            simp only [spansN, hgd, hb]
            rw [if_neg (by simp), if_neg this, s1]; rfl
          have fin : ∀ (tm' : Nat → DV), tm' 0 = .ref 0 0 → tm' 11 = .arr 1 0 1 fr.length → tm' 12 = i64 fr.length → tm' 13 = i64 (i + 1) → tm' 3 = .arr 2 0 2 1 → True := fun _ _ _ _ _ _ => trivial
          rcases Nat.eq_zero_or_pos i with h0 | h0
          · have h0' : ¬ (0 < i) := by omega
            simp [room, s3, q2, q3, q4, q5, hi, hi', ht1, e1, e2, hb, h0', w4]
            exact .same (fr.length - (i + 1)) (by omega) ⟨i + 1, rfl, by omega, .inr ⟨by rw [hn]; simp, by simp [hn, room], by rw [hn]; simp⟩, by simp [q2], by simp [q3], by simp [q4], by simp [w3]⟩
          · obtain ⟨c, p1, p2, p3, p4, p5, p6, p7, p8⟩ := hprev h0
            have hc : c = false := by
              cases c
              · rfl
              · obtain ⟨l, r, e⟩ := f3 h0 p3
                rw [s1] at e; simp at e
            subst hc
            have h0' : 0 < i := h0
            simp [room, s3, q2, q3, q4, q5, hi, hi', ht1, e1, e2, hb, h0', w4, p2, p4, p5, p6, p7, p8]
            exact .same (fr.length - (i + 1)) (by omega) ⟨i + 1, rfl, by omega, .inr ⟨by rw [hn]; simp, by simp [hn, room], by rw [hn]; simp⟩, by simp [q2], by simp [q3], by simp [q4], by simp [w3]⟩
      · subst s2
        cases hb : fr[i] with
        | false =>
          have hn : spansN at_ fr (i + 1) = spansN at_ fr i := by simp only [spansN, hgd, hb, if_true]
          simp [room, s3, q2, q3, q4, q5, hi, hi', ht1, e1, e2, hb]
          exact .same (fr.length - (i + 1)) (by omega) ⟨i + 1, rfl, by omega, .inr ⟨by rw [hn]; exact s1, by simp [hn, room], by rw [hn]; simp [s3]⟩, by simp [q2], by simp [q3], by simp [q4], by simp [w3]⟩
        | true =>
          by_cases hp : 0 < i ∧ fr.getD (i - 1) false = true
          · -- the last one is longer
            obtain ⟨h0, hp2⟩ := hp
            obtain ⟨l, r, e⟩ := f3 h0 hp2
            have hn : spansN at_ fr (i + 1) = l ++ [(r.1, r.2 + 1)] := by
              simp only [spansN, hgd, hb]
              rw [if_neg (by simp), if_pos ⟨h0, hp2⟩, e, bump_app]
            obtain ⟨c, p1, p2, p3, p4, p5, p6, p7, p8⟩ := hprev h0
            rw [p3] at hp2; subst hp2
            have hr := f1 r (by rw [e]; simp)
            rw [e] at f2; simp at f2
            rw [e] at s3 ⊢
            have w5 : IntKind.i64.wrap (l.length : Int) = l.length := wI (by omega) (by omega)
            have w6 : IntKind.i64.wrap (r.2 + 1) = r.2 + 1 := wI (by omega) (by omega)
            have g1 : ((sbox (l ++ [r])).drop (l.length * 2 + 1)).take 1 = [i64 r.2] := by
              rw [sbox_app, List.drop_append, List.drop_of_length_le (by simp)]
              simp [sbox_cons]
            have g2 : ∀ x, (sbox (l ++ [r])).take (l.length * 2 + 1) ++ i64 x :: (sbox (l ++ [r])).drop (l.length * 2 + 1 + 1) = sbox (l ++ [(r.1, x)]) := fun x => by
              rw [sbox_app, sbox_app, List.take_append, List.drop_append, List.take_of_length_le (by simp), List.drop_of_length_le (by simp; omega)]
              have k1 : l.length * 2 + 1 - l.length * 2 = 1 := by omega
              have k2 : l.length * 2 + 1 + 1 - l.length * 2 = 2 := by omega
              simp [sbox_cons, k1, k2]
            have g3 : l.length * 2 + 1 + 1 ≤ (l.length + 1) * 2 := by omega
            simp [room, s3, q2, q3, q4, q5, hi, hi', ht1, e1, e2, hb, h0, p2, p4, p5, p6, p7, p8, w5, w6, g1, g2, g3]
            exact .same (fr.length - (i + 1)) (by omega) ⟨i + 1, rfl, by omega, .inr ⟨by rw [hn]; simp, by simp [hn, room], by rw [hn]; simp [s3]⟩, by simp [q2], by simp [q3], by simp [q4], by simp [w3]⟩
          · have hn : spansN at_ fr (i + 1) = spansN at_ fr i ++ [(at_ + i, 1)] := by
              simp only [spansN, hgd, hb]
              rw [if_neg (by simp), if_neg hp]
            have hl0 : 0 < (spansN at_ fr i).length := List.length_pos_iff.2 s1
            have g1 : (spansN at_ fr i).length + 1 ≤ 70368744177664 := by omega
            have g2 : (spansN at_ fr i).length + 1 ≤ 9223372036854775807 := by omega
            have g3 : ((spansN at_ fr i).length + 1) * 16 ≤ 140737488355328 := by omega
            have endB : ∀ tm' : Nat → DV, tm' 0 = .ref 0 0 → tm' 11 = .arr 1 0 1 fr.length → tm' 12 = i64 fr.length → tm' 13 = i64 ((i : Int) + 1) → tm' 3 = .arr 3 0 2 ((spansN at_ fr i).length + 1) →
                RoundEnd (fun m s => ∃ i, m = fr.length - i ∧ i ≤ fr.length ∧ ((spansN at_ fr i = [] ∧ s.hp = room at_ fr ∧ s.tm 3 = .mt 30 2) ∨ (spansN at_ fr i ≠ [] ∧ s.hp = room at_ fr ++ [sbox (spansN at_ fr i)] ∧ s.tm 3 = .arr 2 0 2 (spansN at_ fr i).length)) ∧
                  s.tm 0 = .ref 0 0 ∧ s.tm 11 = .arr 1 0 1 fr.length ∧ s.tm 12 = i64 fr.length ∧ s.tm 13 = i64 i) 2 (fr.length - i) ⟨tm', [[i64 at_, .arr 1 0 1 fr.length], fbox fr, [], sbox (spansN at_ fr i ++ [(at_ + i, 1)])]⟩ := by
              intro tm' k0 k1 k2 k3 k4
              refine .by (fr.length - (i + 1)) (by omega) (Gh.ren [0, 1, 3] [[i64 at_, .arr 1 0 1 fr.length], fbox fr, sbox (spansN at_ fr i ++ [(at_ + i, 1)])] (by simp) (by decide) (by decide) (by simp)) ⟨i + 1, rfl, by omega, .inr ⟨by rw [hn]; simp, ?_, ?_⟩, ?_, ?_, ?_, ?_⟩
              · simp [renSt, hn, room, show List.idxOf 1 [0, 1, 3] = 1 from rfl]
              · simp [renSt, renD, k4, hn, show List.idxOf 3 [0, 1, 3] = 2 from rfl]
              · simp [renSt, renD, k0]
              · simp [renSt, renD, k1, show List.idxOf 1 [0, 1, 3] = 1 from rfl]
              · simp [renSt, renD, k2]
              · simp [renSt, renD, k3]
            rcases Nat.eq_zero_or_pos i with h0 | h0
            · have h0' : ¬ (0 < i) := by omega
              simp [room, s3, q2, q3, q4, q5, hi, hi', ht1, e1, e2, hb, h0', w4, hl0, s1, g1, g2, g3, sbox_app']
              exact endB _ (by simp [q2]) (by simp [q3]) (by simp [q4]) (by simp [w3]) (by simp)
            · obtain ⟨c, p1, p2, p3, p4, p5, p6, p7, p8⟩ := hprev h0
              have hc : c = false := by
                cases c
                · rfl
                · exact absurd ⟨h0, p3⟩ hp
              subst hc
              simp [room, s3, q2, q3, q4, q5, hi, hi', ht1, e1, e2, hb, h0, w4, p2, p4, p5, p6, p7, p8, hl0, s1, g1, g2, g3, sbox_app']
              exact endB _ (by simp [q2]) (by simp [q3]) (by simp [q4]) (by simp [w3]) (by simp)
    · have hi' : ¬ ((i : Int) < fr.length) := by omega
      have : i = fr.length := by omega
      subst this
      rcases hcase with ⟨s1, s2, s3⟩ | ⟨s1, s2, s3⟩
      · subst s2
        simp [room, s3, q2, q3, q4, q5, hi']
        exact s1
      · subst s2
        simp [room, s3, q2, q3, q4, q5, hi']
        exact ⟨s1, rfl, rfl⟩
  · rintro ⟨tm, hp⟩ (⟨s1, s2, s3⟩ | ⟨s1, s2, s3⟩)
    · simp only at s2 s3
      subst s2
      simp [room, s3]
      rw [s1]
      exact .keep (rr := .mt 30 2) (by simp) (.mtfr _ _) (by simp) (by simp) (by simp [rowsS]) (by simp)
    · simp only at s2 s3
      subst s2
      simp [room, s3]
      refine .by (Gh.freeze 2 2 2 (spansP at_ fr).length ((spansP at_ fr).map encS) (by simp) (by simp; rfl) (by omega) (by intro x hx; obtain ⟨r, _, rfl⟩ := List.mem_map.1 hx; rfl) (by simp)) ?_
      exact .keep (rr := rowsS (spansP at_ fr)) (by simp [rowsS]) (.refl _) (by simp) (by simp) (by simp [rowsS]) (by simp)
