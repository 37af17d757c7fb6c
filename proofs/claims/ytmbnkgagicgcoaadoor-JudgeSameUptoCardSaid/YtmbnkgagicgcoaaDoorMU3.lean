/- Part of the proof: contracts of the functions, walked by the D-machine. No condition. -/
import Derived.Test.YtmbnkgagicgcoaaDoorMU2
set_option linter.unusedSimpArgs false
set_option linter.unusedVariables false
set_option maxHeartbeats 4000000
set_option maxRecDepth 100000
namespace Go.Proofs
open Go Go.RowKit
namespace Dm.Ju
open Dm Dm.Sc Go.Proofs.Tryd
attribute [local simp] takes handsOn isTmp Op.operands Call.operands
theorem cloneN_ok {W0 nb} : DCalls ⟨Tryd.prog, W0, nb⟩ 44 [tk []] [] (tk []) [] :=
  dcalls_foreign2 (fun ws => ∃ a c, ws = [.slice a 0 c] ∧ (a = none → c = 0)) (fun v => ∃ a c, v = .slice a 0 c ∧ (a = none → c = 0)) ⟨_, Tryd.func44, by kernel_rfl, rfl⟩
    (fun w h ρ O ws r => by
      simp only [tk, List.map_nil, RepDs, RepD, Rep] at r
      obtain ⟨v, rest, rfl, r1, rfl⟩ := r
      rcases r1 with ⟨_, a, c, rfl, hac⟩ | ⟨g, off, cap, rfl, _⟩
      · exact ⟨a, c, rfl, hac⟩
      · exact ⟨_, cap, rfl, fun q => by cases q⟩)
    (fun w h ρ O v hv => by
      simp only [tk, List.map_nil, RepD, Rep]
      exact .inl ⟨trivial, hv⟩)
    (fun ws hA w _ _ => by
      obtain ⟨a, c, rfl, hac⟩ := hA
      exact Tryd.clone_empty a c hac w)
theorem clone_ok {W0 nb l} (hne : l ≠ []) (hl : l.length < 100000000) : DCalls ⟨Tryd.prog, W0, nb⟩ 44 [tk l] [] (.arr 0 0 5 l.length) [tbox l] := by
  obtain ⟨t, l, rfl⟩ : ∃ t l', l = t :: l' := by
    cases l with
    | nil => exact absurd rfl hne
    | cons t l' => exact ⟨t, l', rfl⟩
  refine dcalls_end Tryd.func44 rfl (by kernel_rfl) 8 Tryd.ntmps44 #[.tmp 2] rfl (Nat.le_of_ble_eq_true rfl) ?_
  have ha1 : (l.length + 1) * 48 ≤ 140737488355328 := by simp at hl; omega
  have ha2 : l.length ≤ 9223372036854775806 := by simp at hl; omega
  simp [tk, ha1, ha2]
  have e : flatP (encT t :: l.map encT) = tbox (t :: l) := rfl
  simp only [e]
  exact .all (by simp) (.refl _) (by simp) (by simp) (by simp) (by simp) (by simp)
def wordsL (l : List Tok) : List Tok := l.filter fun t => !(t.kind == 6)
theorem semiAt_spec : ∀ (l : List Tok) (k : Nat), (semiAt l k = -1 ∧ wordsL l = l) ∨ ∃ i, semiAt l k = ((k + i : Nat) : Int) ∧ i < l.length ∧ wordsL (l.take (i + 1)) = l.take i
  | [], k => .inl ⟨rfl, rfl⟩
  | t :: l, k => by
    simp only [semiAt]
    cases h : t.kind == 6 with
    | true =>
      rw [if_pos rfl]
      exact .inr ⟨0, rfl, by simp, by simp [wordsL, h]⟩
    | false =>
      simp only [Bool.false_eq_true, if_false]
      rcases semiAt_spec l (k + 1) with ⟨h1, h2⟩ | ⟨i, h1, h2, h3⟩
      · refine .inl ⟨h1, ?_⟩
        simp only [wordsL, List.filter_cons, h, Bool.not_false, if_true]
        rw [← wordsL, h2]
      · refine .inr ⟨i + 1, by rw [h1]; congr 1; omega, by simp; omega, ?_⟩
        simp only [List.take_succ_cons, wordsL, List.filter_cons, h, Bool.not_false, if_true]
        rw [← wordsL, h3]
theorem wordsL_len (l : List Tok) : (wordsL l).length ≤ l.length := List.length_filter_le _ _
def delI (l : List Tok) (m : Nat) (st : St) : Prop := ∃ (i j : Nat) (L : List Tok), L.length = l.length ∧ i < j ∧ j ≤ l.length ∧ m = l.length - j ∧ L.take i = wordsL (l.take j) ∧ L.drop j = l.drop j ∧ st.hp = [tbox L] ∧ st.tm 0 = .arr 0 0 5 l.length ∧ st.tm 1 = .fn 45 [] ∧ st.tm 5 = i64 (i : Nat) ∧ st.tm 6 = i64 (j : Nat)
def delJ (l : List Tok) (st : St) : Prop := ∃ (i : Nat) (L : List Tok), L.length = l.length ∧ i < l.length ∧ L.take i = wordsL l ∧ st.hp = [tbox L] ∧ st.tm 0 = .arr 0 0 5 l.length ∧ st.tm 5 = i64 (i : Nat)
theorem delete_ok {W0 nb l} (hne : l ≠ []) (hl : l.length < 100000000) : DCalls ⟨Tryd.prog, W0, nb⟩ 43 [.arr 0 0 5 l.length, .fn 45 []] [tbox l] (tk (wordsL l)) [[]] := by
  have hn0 : 0 < l.length := List.length_pos_iff.2 hne
  refine dcalls_end Tryd.func43 rfl (by kernel_rfl) 42 Tryd.ntmps43 #[.tmp 4] rfl (Nat.le_of_ble_eq_true rfl) ?_
  simp
  refine CallGoal.same (index_ok hl) ?_
  rcases semiAt_spec l 0 with ⟨h1, h2⟩ | ⟨i, h1, h2, h3⟩
  · rw [h1, h2]
    simp
    refine EndGoal.by (Gh.freeze 4 0 5 l.length (l.map encT) (by simp) (by simp; rfl) (by omega) (by intro x hx; obtain ⟨r, _, rfl⟩ := List.mem_map.1 hx; rfl) (by simp)) ?_
    simp
    exact .keep (by simp) (.refl _) (by simp) (by simp) (by simp) (by simp)
  · rw [h1, Nat.zero_add]
    have hne1 : ((i : Int) == -1) = false := beq_eq_false_iff_ne.2 (by omega)
    have hw := w64_id (n := (i : Int) + 1) (by omega) (by omega)
    simp only [w64] at hw
    simp [hne1, hw]
    refine LoopGoal.cut (delJ l) ?_ ?_
    · refine ⟨delI l, l.length - (i + 1), .here ⟨i, i + 1, l, rfl, by omega, by omega, rfl, h3.symm, rfl, by simp, by simp, by simp, by simp, by simp⟩, ?_⟩
      rintro m ⟨tm, hp⟩ ⟨i, j, L, hL, hij, hj, rfl, ht, hd, h0, g0, g1, g5, g6⟩
      simp only at h0 g0 g1 g5 g6
      subst h0
      rcases Nat.lt_or_ge j l.length with hlt | hge
      · have hat := tbox_at L j (by omega)
        have hb : j * 5 + 5 ≤ L.length * 5 := by omega
        have hLne : L ≠ [] := by rintro rfl; simp at hL; omega
        have hLj : L[j] = l[j] := by
          have e1 : (L.drop j)[0]? = (l.drop j)[0]? := by rw [hd]
          simp only [List.getElem?_drop, Nat.add_zero] at e1
          rw [List.getElem?_eq_getElem (by omega), List.getElem?_eq_getElem hlt] at e1
          exact Option.some.inj e1
        have hd1 : L.drop (j + 1) = l.drop (j + 1) := by
          have := congrArg (List.drop 1) hd
          rwa [List.drop_drop, List.drop_drop] at this
        have hwj : wordsL (l.take (j + 1)) = wordsL (l.take j) ++ (if l[j].kind == 6 then [] else [l[j]]) := by
          rw [List.take_succ_eq_append_getElem hlt, wordsL, List.filter_append]
          congr 1
          cases hq : l[j].kind == 6 <;> simp [hq]
        have hw1 := w64_id (n := (j : Int) + 1) (by omega) (by omega)
        have hw2 := w64_id (n := (i : Int) + 1) (by omega) (by omega)
        simp only [w64] at hw1 hw2
        simp [g0, g1, g5, g6, hlt, hat, hb, hLne, encT]
        refine CallGoal.same (isSemi_ok (t := L[j])) ?_
        rw [hLj]
        simp
        cases hq : l[j].kind == 6 with
        | true =>
          rw [hq, if_pos rfl, List.append_nil] at hwj
          simp [g6, hw1]
          refine .drop (l.length - (j + 1)) (by omega) 1 (by simp) (by simp) (by simp) ⟨i, j + 1, L, hL, by omega, by omega, rfl, by rw [ht, hwj], hd1, by simp [dropSt], by simp [dropSt, dropD, g0], by simp [dropSt, dropD, g1], by simp [dropSt, dropD, g5], by simp [dropSt, dropD, hw1]⟩
        | false =>
          rw [hq] at hwj
          simp only [Bool.false_eq_true, if_false] at hwj
          have hi : i < L.length := by omega
          have hbi : i * 5 + 5 ≤ l.length * 5 := by omega
          have hset := tbox_set L i l[j] hi
          simp only [encT, List.map_cons, List.map_nil, List.append_assoc, List.cons_append, List.nil_append] at hset
          simp [g0, g1, g5, g6, hw1, hw2, hi, hbi, hLne, hL, show i < l.length by omega]
          rw [hset]
          refine .drop (l.length - (j + 1)) (by omega) 1 (by simp) (by simp) (by simp) ⟨i + 1, j + 1, L.set i l[j], by simp [hL], by omega, by omega, rfl, ?_, ?_, by simp [dropSt], by simp [dropSt, dropD, g0], by simp [dropSt, dropD, g1], by simp [dropSt, dropD, hw2], by simp [dropSt, dropD, hw1]⟩
          · rw [hwj, ← ht, List.take_succ_eq_append_getElem (by simpa using hi), List.take_set_of_le (Nat.le_refl _)]
            simp
          · rw [List.drop_set_of_lt (by omega), hd1]
      · have : j = l.length := by omega
        subst this
        simp [g0, g1, g5, g6]
        exact ⟨i, L, hL, hij, by rw [ht, List.take_length], by simp, by simp [g0], by simp [g5]⟩
    · rintro ⟨tm, hp⟩ ⟨i, L, hL, hi, ht, h0, g0, g5⟩
      simp only at h0 g0 g5
      subst h0
      have hLne : L ≠ [] := by rintro rfl; simp at hL; omega
      have hbi : i * 5 + (l.length - i) * 5 ≤ L.length * 5 := by omega
      have hni : ¬ l.length - i = 0 := by omega
      simp [g0, g5, hLne, hbi, hni, Nat.le_of_lt hi]
      generalize (List.replicate (l.length - i) _).flatten ++ List.drop (i * 5 + (l.length - i) * 5) (tbox L) = T
      have hlen : (wordsL l).length = i := by rw [← ht, List.length_take]; omega
      have e : (List.take (i * 5) (tbox L) ++ T).take (i * 5) = tbox (wordsL l) := by
        rw [tbox_take, ht, List.take_append_of_le_length (by simp [hlen]), List.take_of_length_le (by simp [hlen])]
      refine EndGoal.by (Gh.cutBox 0 (i * 5) _ rfl) ?_
      simp only [e, List.set_cons_zero]
      refine EndGoal.by (Gh.freeze 4 0 5 i ((wordsL l).map encT) (by simp) (by simp; rfl) (by omega) (by intro x hx; obtain ⟨r, _, rfl⟩ := List.mem_map.1 hx; rfl) (by simp [hlen])) ?_
      simp
      exact .keep (by simp) (.refl _) (by simp) (by simp) (by simp) (by simp)
end Dm.Ju
end Go.Proofs
