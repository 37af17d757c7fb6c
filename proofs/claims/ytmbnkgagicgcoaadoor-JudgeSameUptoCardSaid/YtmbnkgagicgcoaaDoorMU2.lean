/- Part of the proof: contracts of the functions, walked by the D-machine. No condition. -/
import Derived.Test.YtmbnkgagicgcoaaDoorMU1
import Derived.Test.YtmbnkgagicgcoaaDoorMS8
import Derived.Lib.SliceRun
import Derived.Laws.Cover3
set_option linter.unusedSimpArgs false
set_option linter.unusedVariables false
set_option maxHeartbeats 4000000
set_option maxRecDepth 100000
namespace Go.Proofs
open Go Go.RowKit
set_option maxHeartbeats 4000000 in
theorem Tryd.clone_empty (a : Option Addr) (c : Nat) (ha : a = none → c = 0) (w : World) :
    Calls Tryd.prog 44 #[.slice a 0 c] w fun e w' => ∃ v, e = .returned v ∧ (∃ a' c', v = .slice a' 0 c' ∧ (a' = none → c' = 0)) ∧ Below w.heap.size w w' := by
  have q24 : ∀ (w : World) (a : Option Addr) (n c n' c' : Nat), (binOp .eql 24 (.slice a n c) (.slice none n' c')).run Tryd.prog w = .ok (.bool a.isNone) w := fun w a n c n' c' => Lib.run_eql_slice_nil w _ _ a n c n' c' Tryd.underlying24
  have happ : ∀ (w' : World) (b : Addr), (Builtin.append_ #[24, 24] 24 #[.slice (some b) 0 0, .slice a 0 c]).run Tryd.prog w' = .ok (.slice (some b) 0 0) w' := by
    intro w' b
    cases a <;> simp [Builtin.append_, run_underlying Tryd.underlying24, Builtin.lenOf, Builtin.firstCells, Dm.tsz_spec Tryd.tsz_31, loadCells, storeCells]
    all_goals simp [loadCellsFrom, storeCells]
  go_enter Tryd.func44, Tryd.ntmps44
  cases a with
  | none =>
    go_wp2
    go_ret
    exact ⟨_, rfl, ⟨none, 0, rfl, fun _ => rfl⟩, Below.refl _ _⟩
  | some a =>
    go_wp2
    go_ret
    exact ⟨_, rfl, ⟨_, 0, rfl, fun _ => rfl⟩, (Below.refl _ w).alloc (Nat.le_refl _) _⟩
namespace Dm.Ju
open Dm Dm.Sc Go.Proofs.Tryd
attribute [local simp] takes handsOn isTmp Op.operands Call.operands
theorem isSemi_ok {W0 nb t} : DCalls ⟨Tryd.prog, W0, nb⟩ 45 [.agg ((encT t).map .p)] [] (.p (.bool (t.kind == 6))) [] := by
  refine dcalls_end Tryd.func45 rfl (by kernel_rfl) 6 Tryd.ntmps45 #[.tmp 2] rfl (Nat.le_of_ble_eq_true rfl) ?_
  simp [encT]
  exact .keep (by simp) (.refl _) (by simp) (by simp) (by simp) (by simp)
/-- The first semicolon. -/
def semiAt : List Tok → Nat → Int
  | [], _ => -1
  | t :: l, i => if t.kind == 6 then (i : Int) else semiAt l (i + 1)
theorem index_ok {W0 nb l} (hl : l.length < 100000000) : DCalls ⟨Tryd.prog, W0, nb⟩ 62 [.arr 0 0 5 l.length, .fn 45 []] [tbox l] (i64 (semiAt l 0)) [tbox l] := by
  obtain ⟨R, hR⟩ : ∃ R, semiAt l 0 = R := ⟨_, rfl⟩
  rw [hR]
  refine dcalls_end Tryd.func62 rfl (by kernel_rfl) 19 Tryd.ntmps62 #[.tmp 4] rfl (Nat.le_of_ble_eq_true rfl) ?_
  simp
  refine ⟨fun m st => ∃ i, semiAt (l.drop i) i = R ∧ m = l.length - i ∧ i ≤ l.length ∧ st.hp = [tbox l] ∧ st.tm 0 = .arr 0 0 5 l.length ∧ st.tm 1 = .fn 45 [] ∧ st.tm 7 = i64 l.length ∧ st.tm 8 = i64 (i : Nat), l.length, .here ⟨0, hR, by simp, by simp, by simp, by simp, by simp, by simp, by simp⟩, ?_⟩
  rintro m ⟨tm, hp⟩ ⟨i, h, rfl, hi, h0, h1, h2, h3, h4⟩
  simp only at h0 h1 h2 h3 h4
  subst h0
  simp [h3, h4]
  rcases Nat.lt_or_ge i l.length with hlt | hge
  · have hd : l.drop i = l[i] :: l.drop (i + 1) := List.drop_eq_getElem_cons hlt
    rw [hd] at h
    simp only [semiAt] at h
    have hw := w64_id (n := (i : Int) + 1) (by omega) (by omega)
    simp only [w64] at hw
    have hat := tbox_at l i hlt
    have hb : i * 5 + 5 ≤ l.length * 5 := by omega
    have hne : l ≠ [] := by rintro rfl; simp at hlt
    simp [hlt, h1, h2, h3, h4, hat, encT, hb, hne]
    refine CallGoal.same (isSemi_ok (t := l[i])) ?_
    simp
    cases hq : l[i].kind == 6 with
    | true =>
      rw [hq, if_pos rfl] at h
      simp [← h]
      exact .keep (by simp) (.refl _) (by simp) (by simp) (by simp) (by simp)
    | false =>
      rw [hq] at h
      simp only [Bool.false_eq_true, if_false] at h
      simp [h1, h2, h3, h4, hw]
      exact .same (l.length - (i + 1)) (by omega) ⟨i + 1, h, rfl, by omega, by simp, by simp [h1], by simp [h2], by simp [h3], by simp [hw]⟩
  · have hn : ¬ (i : Int) < l.length := by omega
    have : i = l.length := by omega
    subst this
    simp [semiAt] at h
    simp [← h]
    exact .keep (by simp) (.refl _) (by simp) (by simp) (by simp) (by simp)
theorem indexN_ok {W0 nb} : DCalls ⟨Tryd.prog, W0, nb⟩ 62 [.p (.sl 5 []), .fn 45 []] [] (i64 (-1)) [] := by
  refine dcalls_end Tryd.func62 rfl (by kernel_rfl) 19 Tryd.ntmps62 #[.tmp 4] rfl (Nat.le_of_ble_eq_true rfl) ?_
  simp
  refine ⟨fun m st => st.hp = [] ∧ st.tm 7 = i64 0 ∧ st.tm 8 = i64 0, 1, .here ⟨by simp, by simp, by simp⟩, ?_⟩
  rintro m ⟨tm, hp⟩ ⟨h0, h3, h4⟩
  simp only at h0 h3 h4
  subst h0
  simp [h3, h4]
  exact .keep (by simp) (.refl _) (by simp) (by simp) (by simp) (by simp)
end Dm.Ju
end Go.Proofs
