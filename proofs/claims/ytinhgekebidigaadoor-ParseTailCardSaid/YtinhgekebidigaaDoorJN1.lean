/- Part of the proof: contracts of the functions, walked by the D-machine. No condition. -/
import Derived.Test.YtinhgekebidigaaDoorSc
import Derived.Test.YtinhgekebidigaaDoorPb
set_option linter.unusedSimpArgs false
set_option linter.unusedVariables false
set_option maxHeartbeats 4000000
namespace Go.Proofs.Dm
open Go Go.Proofs Go.Proofs.Tryd
namespace Rk
attribute [local simp] takes handsOn isTmp Op.operands Call.operands
open Sc
theorem in_ok {W0 nb xs s} (hl : xs.length < 1000000) : DCalls ⟨Tryd.prog, W0, nb⟩ 12 [.p (.str s), .p (.sl 1 (rowsS xs))] [] (.p (.bool (isIn xs s))) [] := by
  refine dcalls_end Tryd.func12 rfl (by kernel_rfl) 18 Tryd.ntmps12 #[.tmp 4] rfl (Nat.le_of_ble_eq_true rfl) ?_
  simp
  refine ⟨fun m st => ∃ i, isIn (xs.drop i) s = isIn xs s ∧ m = xs.length - i ∧ i ≤ xs.length ∧ st.hp = [] ∧ st.tm 0 = .p (.str s) ∧ st.tm 1 = .p (.sl 1 (rowsS xs)) ∧ st.tm 5 = i64 (i : Nat), xs.length, .here ⟨0, by simp, by simp, by simp, by simp, by simp, by simp, by simp⟩, ?_⟩
  rintro m ⟨tm, hp⟩ ⟨i, h, rfl, hi, h0, h1, h2, h4⟩
  simp only at h0 h1 h2 h4
  subst h0
  have hrl : (rowsS xs).length = xs.length := by simp [rowsS]
  simp [h1, h2, h4, hrl]
  rcases Nat.lt_or_ge i xs.length with hlt | hge
  · have hg : (rowsS xs)[i]? = some [.str xs[i]] := by simp [rowsS, hlt]
    have hd : xs.drop i = xs[i] :: xs.drop (i + 1) := List.drop_eq_getElem_cons hlt
    rw [hd] at h
    simp only [isIn, List.any_cons] at h
    have hw := w64_id (n := (i : Int) + 1) (by omega) (by omega)
    simp only [w64] at hw
    have he : (xs[i].toList == s.toList) = eqB s xs[i] := by simp only [eqB]; exact Bool.beq_comm
    simp [hlt, h1, h2, h4, hg, rowsS, he]
    cases hq : eqB s xs[i] with
    | true =>
      rw [hq, Bool.true_or] at h
      rw [show isIn xs s = true from h.symm]
      simp
      exact .keep (by simp) (.refl _) (by simp) (by simp) (by simp) (by simp)
    | false =>
      rw [hq, Bool.false_or] at h
      simp [h1, h2, h4]
      exact .same (xs.length - (i + 1)) (by omega) ⟨i + 1, h, rfl, by omega, by simp, by simp [h1], by simp [h2, rowsS], by simp [hw]⟩
  · have : i = xs.length := by omega
    subst this
    rw [← h]
    simp [isIn]
    exact .keep (by simp) (.refl _) (by simp) (by simp) (by simp) (by simp)
def ranksL : List (List ByteArray) := [[⟨#[124, 124]⟩], [⟨#[38, 38]⟩], [⟨#[61, 61]⟩, ⟨#[33, 61]⟩, ⟨#[60]⟩], [⟨#[43]⟩, ⟨#[45]⟩], [⟨#[42]⟩]]
def rankAt (s : ByteArray) : List (List ByteArray) → Nat → Int
  | [], _ => 0
  | r :: rs, i => if isIn r s then (i : Int) + 1 else rankAt s rs (i + 1)
def rowR (r : List ByteArray) : List PD := [.sl 1 (rowsS r)]
theorem rank_eq (s : ByteArray) : rankAt s ranksL 0 = Pp.rank s := by
  have e : ∀ a : List UInt8, (ByteArray.mk a.toArray).toList = a := by intro a; simp [ByteArray.toList_eq]
  simp only [ranksL, rankAt, isIn, List.any_cons, List.any_nil, Bool.or_false, eqB, Pp.rank, e]
  generalize s.1.toList = x
  cases x == [124, 124] <;> cases x == [38, 38] <;> cases x == [61, 61] <;> cases x == [33, 61] <;> cases x == [60] <;> cases x == [43] <;> cases x == [45] <;> cases x == [42] <;> rfl
def rkI (s : ByteArray) (R : Int) (m : Nat) (st : St) : Prop := ∃ i : Nat, rankAt s (ranksL.drop i) i = R ∧ m = 5 - i ∧ i ≤ 5 ∧ st.hp = [] ∧ st.tm 0 = .p (.str s) ∧ st.tm 3 = .own 23 1 (ranksL.map rowR) ∧ st.tm 4 = i64 (i : Nat)
theorem rank_ok {W0 nb s} : DCalls ⟨Tryd.prog, W0, nb⟩ 10 [.p (.str s)] [] (i64 (Pp.rank s)) [] := by
  rw [← rank_eq]
  obtain ⟨R, hR⟩ : ∃ R, rankAt s ranksL 0 = R := ⟨_, rfl⟩
  rw [hR]
  refine dcalls_end Tryd.func10 rfl (by kernel_rfl) 25 Tryd.ntmps10 #[.tmp 2] rfl (Nat.le_of_ble_eq_true rfl) ?_
  simp
  refine ⟨rkI s R, 5, .here ⟨0, hR, by simp, by simp, by simp, by simp, by simp [ranksL, rowR, rowsS], by simp⟩, ?_⟩
  rintro m ⟨tm, hp⟩ ⟨i, h, rfl, hi, h0, h1, h3, h4⟩
  simp only at h0 h1 h3 h4
  subst h0
  have hrl : ranksL.length = 5 := rfl
  simp [h3, h4, hrl]
  rcases Nat.lt_or_ge i 5 with hlt | hge
  · have hlt' : i < ranksL.length := by rw [hrl]; exact hlt
    have hd : ranksL.drop i = ranksL[i] :: ranksL.drop (i + 1) := List.drop_eq_getElem_cons hlt'
    rw [hd] at h
    simp only [rankAt] at h
    have hw := w64_id (n := (i : Int) + 1) (by omega) (by omega)
    simp only [w64] at hw
    have hsm : ranksL[i].length < 1000000 := by
      have : ∀ r ∈ ranksL, r.length < 1000000 := by decide
      exact this _ (List.getElem_mem hlt')
    have hi5 : (i : Int) < 5 := by omega
    simp [hi5, hlt', h1, h3, h4, rowR, hrl, List.getElem?_eq_getElem hlt']
    refine CallGoal.same (in_ok hsm) ?_
    cases hq : isIn ranksL[i] s with
    | true =>
      rw [hq, if_pos rfl] at h
      subst h
      simp [h4, hw]
      exact .keep (by simp) (.refl _) (by simp) (by simp) (by simp) (by simp)
    | false =>
      rw [hq] at h
      simp only [Bool.false_eq_true, if_false] at h
      simp [h4, hw]
      exact .same (5 - (i + 1)) (by omega) ⟨i + 1, h, rfl, by omega, by simp, by simp [h1], by simp [h3], by simp [hw]⟩
  · have : i = 5 := by omega
    subst this
    simp [ranksL, rankAt] at h
    subst h
    simp
    exact .keep (by simp) (.refl _) (by simp) (by simp) (by simp) (by simp)
end Rk
end Go.Proofs.Dm
