/- Part of the proof: contracts of the functions, walked by the D-machine. No condition. -/
import Derived.Test.YtmbnkgagicgcoaaDoorMU6
set_option linter.unusedSimpArgs false
set_option linter.unusedVariables false
set_option maxHeartbeats 4000000
set_option maxRecDepth 100000
namespace Go.Proofs
open Go Go.RowKit
namespace Dm.Ju
open Dm Dm.Sc Go.Proofs.Tryd
attribute [local simp] takes handsOn isTmp Op.operands Call.operands
def judgeComments (a b : ByteArray) : Bool := decide ((scanP a).2.2 < 0) && decide ((scanP b).2.2 < 0) && allEq eqR (remsP a) (remsP b)
theorem comments_ok {W0 nb a b} (h2 : 2 ≤ nb) (hT : Lib.Utf8Tabs 0 1 W0) (ha : a.size < 10000000) (hb : b.size < 10000000) : DCalls ⟨Tryd.prog, W0, nb⟩ 10 [.p (.str a), .p (.str b)] [] (.p (.bool (judgeComments a b))) [] := by
  have la := scanP_len a
  have lr : (remsP a).length < 100000000 := by simp [remsP]; omega
  have ca := remarks_ok (W0 := W0) (nb := nb) (s := a) h2 hT ha
  have cb := remarks_ok (W0 := W0) (nb := nb) (s := b) h2 hT hb
  simp only [judgeComments]
  obtain ⟨f, hf⟩ : ∃ f, decide ((scanP a).2.2 < 0) = f := ⟨_, rfl⟩
  obtain ⟨g, hg⟩ : ∃ g, decide ((scanP b).2.2 < 0) = g := ⟨_, rfl⟩
  obtain ⟨x, hx⟩ : ∃ x, remsP a = x := ⟨_, rfl⟩
  obtain ⟨y, hy⟩ : ∃ y, remsP b = y := ⟨_, rfl⟩
  rw [hf, hx] at ca
  rw [hg, hy] at cb
  rw [hf, hg, hx, hy]
  rw [hx] at lr
  clear hf hg hx hy la
  refine dcalls_end Tryd.func10 rfl (by kernel_rfl) 28 Tryd.ntmps10 #[.tmp 4] rfl (Nat.le_of_ble_eq_true rfl) ?_
  simp
  refine CallGoal.same ca ?_
  simp
  refine CallGoal.same cb ?_
  simp
  cases f with
  | false =>
    simp
    exact .keep (by simp) (.refl _) (by simp) (by simp) (by simp) (by simp)
  | true =>
    cases g with
    | false =>
      simp
      exact .keep (by simp) (.refl _) (by simp) (by simp) (by simp) (by simp)
    | true =>
      simp
      refine CallGoal.same (equalR_ok lr) ?_
      simp
      exact .keep (by simp) (.refl _) (by simp) (by simp) (by simp) (by simp)
structure Bnd where
  file : Int
  tok : Int
  dfile : Int
  dtok : Int
def encB (b : Bnd) : List PD := [.int .i64 b.file, .int .i64 b.tok, .int .i64 b.dfile, .int .i64 b.dtok]
def isB (i k : Int) (b : Bnd) : Bool := b.file == i && b.tok == k
theorem isB_ok {W0 nb} {b : Bnd} {i k : Int} : DCalls ⟨Tryd.prog, W0, nb⟩ 27 [.agg ((encB b).map .p), .ref 0 0, .ref 1 0] [[i64 i], [i64 k]] (.p (.bool (isB i k b))) [[i64 i], [i64 k]] := by
  refine dcalls_end Tryd.func27 rfl (by kernel_rfl) 15 Tryd.ntmps27 #[.tmp 4] rfl (Nat.le_of_ble_eq_true rfl) ?_
  simp [encB, isB]
  cases h : b.file == i <;> simp [h]
  all_goals exact .keep (by simp [h]) (.refl _) (by simp) (by simp) (by simp) (by simp)
def bAt (i k : Int) : List Bnd → Nat → Int
  | [], _ => -1
  | b :: l, n => if isB i k b then (n : Int) else bAt i k l (n + 1)
theorem bAt_any (i k : Int) : ∀ (l : List Bnd) (n : Nat), decide (0 ≤ bAt i k l n) = l.any (isB i k)
  | [], n => by simp [bAt]
  | b :: l, n => by
    simp only [bAt, List.any_cons]
    by_cases h : isB i k b = true
    · simp [h]
    · have := bAt_any i k l (n + 1)
      simp [h, this]
theorem indexB_ok {W0 nb} {i k : Int} {l : List Bnd} (hl : l.length < 100000000) : DCalls ⟨Tryd.prog, W0, nb⟩ 47 [.p (.sl 4 (l.map encB)), .fn 27 [.ref 0 0, .ref 1 0]] [[i64 i], [i64 k]] (i64 (bAt i k l 0)) [[i64 i], [i64 k]] := by
  obtain ⟨R, hR⟩ : ∃ R, bAt i k l 0 = R := ⟨_, rfl⟩
  rw [hR]
  refine dcalls_end Tryd.func47 rfl (by kernel_rfl) 19 Tryd.ntmps47 #[.tmp 4] rfl (Nat.le_of_ble_eq_true rfl) ?_
  simp
  refine ⟨fun m st => ∃ n, bAt i k (l.drop n) n = R ∧ m = l.length - n ∧ n ≤ l.length ∧ st.hp = [[i64 i], [i64 k]] ∧ st.tm 0 = .p (.sl 4 (l.map encB)) ∧ st.tm 1 = .fn 27 [.ref 0 0, .ref 1 0] ∧ st.tm 7 = i64 l.length ∧ st.tm 8 = i64 (n : Nat), l.length, .here ⟨0, hR, by simp, by simp, by simp, by simp, by simp, by simp, by simp⟩, ?_⟩
  rintro m ⟨tm, hp⟩ ⟨n, h, rfl, hn, h0, h1, h2, h3, h4⟩
  simp only at h0 h1 h2 h3 h4
  subst h0
  simp [h3, h4]
  rcases Nat.lt_or_ge n l.length with hlt | hge
  · have hd : l.drop n = l[n] :: l.drop (n + 1) := List.drop_eq_getElem_cons hlt
    rw [hd] at h
    simp only [bAt] at h
    have hw := w64_id (n := (n : Int) + 1) (by omega) (by omega)
    simp only [w64] at hw
    simp [hlt, h1, h2, h3, h4, encB]
    refine CallGoal.same (isB_ok (b := l[n])) ?_
    simp
    cases hq : isB i k l[n] with
    | true =>
      rw [hq, if_pos rfl] at h
      simp [← h]
      exact .keep (by simp) (.refl _) (by simp) (by simp) (by simp) (by simp)
    | false =>
      rw [hq] at h
      simp only [Bool.false_eq_true, if_false] at h
      simp [h1, h2, h3, h4, hw]
      exact .same (l.length - (n + 1)) (by omega) ⟨n + 1, h, rfl, by omega, by simp, by simp [h1], by simp [h2], by simp [h3], by simp [hw]⟩
  · have : n = l.length := by omega
    subst this
    simp [bAt] at h
    simp [← h]
    exact .keep (by simp) (.refl _) (by simp) (by simp) (by simp) (by simp)
theorem containsB_ok {W0 nb} {i k : Int} {l : List Bnd} (hl : l.length < 100000000) : DCalls ⟨Tryd.prog, W0, nb⟩ 26 [.p (.sl 4 (l.map encB)), .fn 27 [.ref 0 0, .ref 1 0]] [[i64 i], [i64 k]] (.p (.bool (l.any (isB i k)))) [[i64 i], [i64 k]] := by
  refine dcalls_end Tryd.func26 rfl (by kernel_rfl) 9 Tryd.ntmps26 #[.tmp 4] rfl (Nat.le_of_ble_eq_true rfl) ?_
  simp
  refine CallGoal.same (indexB_ok hl) ?_
  simp [bAt_any]
  exact .keep (by simp) (.refl _) (by simp) (by simp) (by simp) (by simp)
end Dm.Ju
end Go.Proofs
