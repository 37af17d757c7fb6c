/- Part of the proof: contracts of the functions, walked by the D-machine. No condition. -/
import Derived.Test.YtmbnkgagicgcoaaDoorMS1
set_option linter.unusedSimpArgs false
set_option linter.unusedVariables false
namespace Go.Proofs.Dm
open Go Go.Proofs Go.Proofs.Tryd
namespace Sc
theorem ifGoal_of {t : Bool} {a b : St → Prop} {s : St} (h1 : t = true → a s) (h2 : t = false → b s) : IfGoal t a b s := by
  cases t
  · rw [IfGoal_false]; exact h2 rfl
  · rw [IfGoal_true]; exact h1 rfl
def eqB (s t : ByteArray) : Bool := s.toList == t.toList
def ops : List ByteArray := [⟨#[40]⟩, ⟨#[41]⟩, ⟨#[123]⟩, ⟨#[125]⟩, ⟨#[44]⟩, ⟨#[46]⟩, ⟨#[58]⟩, ⟨#[58, 61]⟩, ⟨#[61]⟩, ⟨#[61, 61]⟩, ⟨#[33, 61]⟩, ⟨#[60]⟩, ⟨#[43]⟩, ⟨#[45]⟩, ⟨#[42]⟩, ⟨#[33]⟩, ⟨#[38, 38]⟩, ⟨#[124, 124]⟩]
def keys : List ByteArray := [⟨#[112, 97, 99, 107, 97, 103, 101]⟩, ⟨#[105, 109, 112, 111, 114, 116]⟩, ⟨#[118, 97, 114]⟩, ⟨#[99, 111, 110, 115, 116]⟩, ⟨#[116, 121, 112, 101]⟩, ⟨#[115, 116, 114, 117, 99, 116]⟩, ⟨#[102, 117, 110, 99]⟩, ⟨#[105, 102]⟩, ⟨#[101, 108, 115, 101]⟩, ⟨#[102, 111, 114]⟩, ⟨#[114, 101, 116, 117, 114, 110]⟩, ⟨#[98, 114, 101, 97, 107]⟩, ⟨#[99, 111, 110, 116, 105, 110, 117, 101]⟩]
def isIn (xs : List ByteArray) (s : ByteArray) : Bool := xs.any fun x => eqB s x
def idxS (s : ByteArray) : List ByteArray → Nat → Int
  | [], _ => -1
  | x :: xs, i => if eqB s x then (i : Int) else idxS s xs (i + 1)
theorem idxS_ge (s : ByteArray) : ∀ (xs : List ByteArray) (i : Nat), decide (0 ≤ idxS s xs i) = isIn xs s
  | [], i => by simp [idxS, isIn]
  | x :: xs, i => by
    simp only [idxS, isIn, List.any_cons]
    by_cases h : eqB s x = true
    · simp [h]
    · have := idxS_ge s xs (i + 1)
      simp only [isIn] at this
      simp [h, this]
def rowsS (xs : List ByteArray) : List (List PD) := xs.map fun x => [.str x]
theorem index_ok {W0 nb xs s} (hl : xs.length < 1000000) : DCalls ⟨Tryd.prog, W0, nb⟩ 84 [.p (.sl 1 (rowsS xs)), .p (.str s)] [] (i64 (idxS s xs 0)) [] := by
  refine dcalls_end Tryd.func84 rfl (by kernel_rfl) 19 Tryd.ntmps84 #[.tmp 4] rfl (Nat.le_of_ble_eq_true rfl) ?_
  simp
  refine ⟨fun m st => ∃ i, idxS s (xs.drop i) i = idxS s xs 0 ∧ m = xs.length - i ∧ i ≤ xs.length ∧ st.hp = [] ∧ st.tm 0 = .p (.sl 1 (rowsS xs)) ∧ st.tm 1 = .p (.str s) ∧ st.tm 7 = i64 xs.length ∧ st.tm 8 = i64 (i : Nat), xs.length, .here ⟨0, by simp, by simp, by simp, by simp, by simp, by simp, by simp [rowsS], by simp⟩, ?_⟩
  rintro m ⟨tm, hp⟩ ⟨i, h, rfl, hi, h0, h1, h2, h3, h4⟩
  simp only at h0 h1 h2 h3 h4
  subst h0
  simp [h3, h4]
  rcases Nat.lt_or_ge i xs.length with hlt | hge
  · have hg : (rowsS xs)[i]? = some [.str xs[i]] := by simp [rowsS, hlt]
    have hd : xs.drop i = xs[i] :: xs.drop (i + 1) := List.drop_eq_getElem_cons hlt
    rw [hd] at h
    simp only [idxS] at h
    have hw := w64_id (n := (i : Int) + 1) (by omega) (by omega)
    simp only [w64] at hw
    simp [hlt, h1, h2, h3, h4, hg, rowsS]
    cases hq : eqB s xs[i] with
    | true =>
      rw [hq, if_pos rfl] at h
      simp only [eqB] at hq
      simp [hq]
      rw [← h]
      exact .keep (by simp) (.refl _) (by simp) (by simp) (by simp) (by simp)
    | false =>
      rw [hq] at h
      simp only [Bool.false_eq_true, if_false] at h
      simp only [eqB] at hq
      simp [hq, h4]
      exact .same (xs.length - (i + 1)) (by omega) ⟨i + 1, h, rfl, by omega, by simp, by simp [h1, rowsS], by simp [h2], by simp [h3], by simp [hw]⟩
  · have hn : ¬ (i : Int) < xs.length := by omega
    have : i = xs.length := by omega
    subst this
    simp [idxS] at h
    simp [← h]
    exact .keep (by simp) (.refl _) (by simp) (by simp) (by simp) (by simp)
theorem contains_ok {W0 nb xs s} (hl : xs.length < 1000000) : DCalls ⟨Tryd.prog, W0, nb⟩ 79 [.p (.sl 1 (rowsS xs)), .p (.str s)] [] (.p (.bool (isIn xs s))) [] := by
  refine dcalls_end Tryd.func79 rfl (by kernel_rfl) 9 Tryd.ntmps79 #[.tmp 4] rfl (Nat.le_of_ble_eq_true rfl) ?_
  simp
  refine CallGoal.same (index_ok hl) ?_
  simp [idxS_ge]
  exact .keep (by simp) (.refl _) (by simp) (by simp) (by simp) (by simp)
theorem isOp_ok {W0 nb s} : DCalls ⟨Tryd.prog, W0, nb⟩ 71 [.p (.str s)] [] (.p (.bool (isIn ops s))) [] := by
  refine dcalls_end Tryd.func71 rfl (by kernel_rfl) 6 Tryd.ntmps71 #[.tmp 2] rfl (Nat.le_of_ble_eq_true rfl) ?_
  simp [takes, handsOn, isTmp, Op.operands, Call.operands]
  refine CallGoal.intro (contains_ok (xs := ops) (s := s) (by decide)) (.cons (.fr _ _ _) (.cons (.refl _) .nil)) ?_
  simp
  exact .keep (by simp) (.refl _) (by simp) (by simp) (by simp) (by simp)
def isKind (t : Tok) (xs : List ByteArray) : Bool := t.kind == 4 && isIn xs t.text
theorem is_ok {W0 nb t xs} (hl : xs.length < 1000000) : DCalls ⟨Tryd.prog, W0, nb⟩ 73 [.agg ((encT t).map .p), .p (.sl 1 (rowsS xs))] [] (.p (.bool (isKind t xs))) [] := by
  refine dcalls_end Tryd.func73 rfl (by kernel_rfl) 14 Tryd.ntmps73 #[.tmp 4] rfl (Nat.le_of_ble_eq_true rfl) ?_
  simp [encT]
  cases h1 : t.kind == 4 with
  | true =>
    simp [h1]
    refine CallGoal.same (contains_ok hl) ?_
    simp [isKind, h1]
    exact .keep (by simp) (.refl _) (by simp) (by simp) (by simp) (by simp)
  | false =>
    simp [h1, isKind]
    exact .keep (by simp) (.refl _) (by simp) (by simp) (by simp) (by simp)
def endK : List ByteArray := [⟨#[114, 101, 116, 117, 114, 110]⟩, ⟨#[98, 114, 101, 97, 107]⟩, ⟨#[99, 111, 110, 116, 105, 110, 117, 101]⟩]
def endO : List ByteArray := [⟨#[41]⟩, ⟨#[125]⟩]
def ends (t : Tok) : Bool := t.kind == 1 || t.kind == 2 || t.kind == 3 || (t.kind == 5 && isIn endK t.text) || (t.kind == 4 && isIn endO t.text)
theorem ends_ok {W0 nb t} : DCalls ⟨Tryd.prog, W0, nb⟩ 61 [.agg ((encT t).map .p)] [] (.p (.bool (ends t))) [] := by
  refine dcalls_end Tryd.func61 rfl (by kernel_rfl) 27 Tryd.ntmps61 #[.tmp 2] rfl (Nat.le_of_ble_eq_true rfl) ?_
  simp [encT]
  refine ifGoal_of (fun h1 => ?_) (fun h1 => ?_)
  · simp [ends, h1]
    exact .keep (by simp) (.refl _) (by simp) (by simp) (by simp) (by simp)
  simp
  refine ifGoal_of (fun h2 => ?_) (fun h2 => ?_)
  · simp [ends, h2]
    exact .keep (by simp) (.refl _) (by simp) (by simp) (by simp) (by simp)
  simp
  refine ifGoal_of (fun h3 => ?_) (fun h3 => ?_)
  · simp [ends, h3]
    exact .keep (by simp) (.refl _) (by simp) (by simp) (by simp) (by simp)
  simp
  refine ifGoal_of (fun h5 => ?_) (fun h5 => ?_)
  · have h4 : (t.kind == 4) = false := by
      rw [beq_iff_eq] at h5
      rw [h5]; rfl
    simp
    cases g1 : t.text.toList == [114, 101, 116, 117, 114, 110] <;> cases g2 : t.text.toList == [98, 114, 101, 97, 107] <;> simp [g1, g2, ends, h1, h2, h3, h4, h5, isIn, endK, eqB]
    all_goals first
      | exact .keep (by simp [g1, g2]) (.refl _) (by simp) (by simp) (by simp) (by simp)
      | exact .keep (by simp [g1, g2, ends, h1, h2, h3, h4, h5, isIn, endK, eqB]; try rfl) (.refl _) (by simp) (by simp) (by simp) (by simp)
  · simp [takes, handsOn, isTmp, Op.operands, Call.operands]
    refine CallGoal.intro (is_ok (t := t) (xs := endO) (by decide)) (.cons (.refl _) (.cons (.fr _ _ _) .nil)) ?_
    simp [ends, h1, h2, h3, h5, isKind]
    exact .keep (by simp) (.refl _) (by simp) (by simp) (by simp) (by simp)
theorem key_ok {W0 nb s} : DCalls ⟨Tryd.prog, W0, nb⟩ 69 [.p (.str s)] [] (.p (.bool (isIn keys s))) [] := by
  refine dcalls_end Tryd.func69 rfl (by kernel_rfl) 18 Tryd.ntmps69 #[.tmp 2] rfl (Nat.le_of_ble_eq_true rfl) ?_
  simp
  cases h0 : s.toList == [112, 97, 99, 107, 97, 103, 101]
  rotate_left
  · have hb : isIn keys s = true := by simp [isIn, keys, eqB, beq_iff_eq.1 h0]
    rw [hb]
    simp
    exact .keep (by simp) (.refl _) (by simp) (by simp) (by simp) (by simp)
  simp
  cases h1 : s.toList == [105, 109, 112, 111, 114, 116]
  rotate_left
  · have hb : isIn keys s = true := by simp [isIn, keys, eqB, beq_iff_eq.1 h1]
    rw [hb]
    simp
    exact .keep (by simp) (.refl _) (by simp) (by simp) (by simp) (by simp)
  simp
  cases h2 : s.toList == [118, 97, 114]
  rotate_left
  · have hb : isIn keys s = true := by simp [isIn, keys, eqB, beq_iff_eq.1 h2]
    rw [hb]
    simp
    exact .keep (by simp) (.refl _) (by simp) (by simp) (by simp) (by simp)
  simp
  cases h3 : s.toList == [99, 111, 110, 115, 116]
  rotate_left
  · have hb : isIn keys s = true := by simp [isIn, keys, eqB, beq_iff_eq.1 h3]
    rw [hb]
    simp
    exact .keep (by simp) (.refl _) (by simp) (by simp) (by simp) (by simp)
  simp
  cases h4 : s.toList == [116, 121, 112, 101]
  rotate_left
  · have hb : isIn keys s = true := by simp [isIn, keys, eqB, beq_iff_eq.1 h4]
    rw [hb]
    simp
    exact .keep (by simp) (.refl _) (by simp) (by simp) (by simp) (by simp)
  simp
  cases h5 : s.toList == [115, 116, 114, 117, 99, 116]
  rotate_left
  · have hb : isIn keys s = true := by simp [isIn, keys, eqB, beq_iff_eq.1 h5]
    rw [hb]
    simp
    exact .keep (by simp) (.refl _) (by simp) (by simp) (by simp) (by simp)
  simp
  cases h6 : s.toList == [102, 117, 110, 99]
  rotate_left
  · have hb : isIn keys s = true := by simp [isIn, keys, eqB, beq_iff_eq.1 h6]
    rw [hb]
    simp
    exact .keep (by simp) (.refl _) (by simp) (by simp) (by simp) (by simp)
  simp
  cases h7 : s.toList == [105, 102]
  rotate_left
  · have hb : isIn keys s = true := by simp [isIn, keys, eqB, beq_iff_eq.1 h7]
    rw [hb]
    simp
    exact .keep (by simp) (.refl _) (by simp) (by simp) (by simp) (by simp)
  simp
  cases h8 : s.toList == [101, 108, 115, 101]
  rotate_left
  · have hb : isIn keys s = true := by simp [isIn, keys, eqB, beq_iff_eq.1 h8]
    rw [hb]
    simp
    exact .keep (by simp) (.refl _) (by simp) (by simp) (by simp) (by simp)
  simp
  cases h9 : s.toList == [102, 111, 114]
  rotate_left
  · have hb : isIn keys s = true := by simp [isIn, keys, eqB, beq_iff_eq.1 h9]
    rw [hb]
    simp
    exact .keep (by simp) (.refl _) (by simp) (by simp) (by simp) (by simp)
  simp
  cases h10 : s.toList == [114, 101, 116, 117, 114, 110]
  rotate_left
  · have hb : isIn keys s = true := by simp [isIn, keys, eqB, beq_iff_eq.1 h10]
    rw [hb]
    simp
    exact .keep (by simp) (.refl _) (by simp) (by simp) (by simp) (by simp)
  simp
  cases h11 : s.toList == [98, 114, 101, 97, 107]
  rotate_left
  · have hb : isIn keys s = true := by simp [isIn, keys, eqB, beq_iff_eq.1 h11]
    rw [hb]
    simp
    exact .keep (by simp) (.refl _) (by simp) (by simp) (by simp) (by simp)
  simp
  cases h12 : s.toList == [99, 111, 110, 116, 105, 110, 117, 101]
  rotate_left
  · have hb : isIn keys s = true := by simp [isIn, keys, eqB, beq_iff_eq.1 h12]
    rw [hb]
    simp
    exact .keep (by simp) (.refl _) (by simp) (by simp) (by simp) (by simp)
  simp
  have hb : isIn keys s = false := by simp [isIn, keys, eqB, beq_eq_false_iff_ne.1 h0, beq_eq_false_iff_ne.1 h1, beq_eq_false_iff_ne.1 h2, beq_eq_false_iff_ne.1 h3, beq_eq_false_iff_ne.1 h4, beq_eq_false_iff_ne.1 h5, beq_eq_false_iff_ne.1 h6, beq_eq_false_iff_ne.1 h7, beq_eq_false_iff_ne.1 h8, beq_eq_false_iff_ne.1 h9, beq_eq_false_iff_ne.1 h10, beq_eq_false_iff_ne.1 h11, beq_eq_false_iff_ne.1 h12]
  rw [hb]
  exact .keep (by simp) (.refl _) (by simp) (by simp) (by simp) (by simp)
end Sc
end Go.Proofs.Dm
