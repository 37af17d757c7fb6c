/- Part of the proof: contracts of the functions, walked by the D-machine. No condition. -/
import Derived.Test.YtinhgekebidigaaDoorJL5
set_option linter.unusedSimpArgs false
set_option linter.unusedVariables false
set_option maxRecDepth 100000
namespace Go.Proofs.Dm
open Go Go.Proofs Go.Proofs.Dm.Sc
namespace Pl
open Gr
/-! ### a tail of calls and fields -/
def tlB : List Bool → List UInt8
  | [] => [10]
  | true :: l => 46 :: 98 :: tlB l
  | false :: l => 40 :: 49 :: 41 :: tlB l
def isO (t : Tok) (c : UInt8) : Prop := t.kind = 4 ∧ t.text = ⟨#[c]⟩
def rowT : List Bool → List Tok → Prop
  | [], [u] => u.kind = 6
  | true :: l, o :: t :: r => isO o 46 ∧ t.kind = 1 ∧ rowT l r
  | false :: l, o :: n :: t :: r => isO o 40 ∧ n.kind = 2 ∧ isO t 41 ∧ rowT l r
  | _, _ => False
/-- the token that ends an operand -/
def endT (c : UInt8) (t : Tok) : Prop := (c ≠ 41 ∧ t.kind = 1) ∨ (c = 41 ∧ isO t 41)
def oneK (c : UInt8) : Int := if c = 41 then 4 else 1
theorem oneK_end {c : UInt8} (hc : c = 97 ∨ c = 98 ∨ c = 41) (a b : Int) : endT c ⟨oneK c, ⟨#[c]⟩, a, b, false⟩ := by
  rcases hc with rfl | rfl | rfl
  · exact .inl ⟨by decide, rfl⟩
  · exact .inl ⟨by decide, rfl⟩
  · exact .inr ⟨rfl, rfl, rfl⟩
theorem tl_run1 (c : UInt8) (hc : c = 97 ∨ c = 98 ∨ c = 41) (r : List UInt8) (x : SS) : ∃ x' t o, runL 2 (c :: 46 :: 98 :: r) x = some (98 :: r, x') ∧ x'.l = x.l ++ [t, o] ∧ x'.c = x.c ∧ endT c t ∧ isO o 46 := by
  have run : runL 2 (c :: 46 :: 98 :: r) x = some (98 :: r, ⟨x.at_ + 2, x.line, (x.l ++ [⟨oneK c, ⟨#[c]⟩, (x.at_ : Int), x.line, false⟩]) ++ [⟨4, ⟨#[46]⟩, ((x.at_ + 1 : Nat) : Int), x.line, false⟩], x.c⟩) := by
    rcases hc with rfl | rfl | rfl <;> (refine (?_ : _ = _); kernel_rfl)
  exact ⟨_, _, _, run, List.append_assoc x.l [_] [_], rfl, oneK_end hc _ _, rfl, rfl⟩
theorem tl_run2 (c : UInt8) (hc : c = 97 ∨ c = 98 ∨ c = 41) (r : List UInt8) (x : SS) : ∃ x' t o n, runL 3 (c :: 40 :: 49 :: 41 :: r) x = some (41 :: r, x') ∧ x'.l = x.l ++ [t, o, n] ∧ x'.c = x.c ∧ endT c t ∧ isO o 40 ∧ n.kind = 2 := by
  have run : runL 3 (c :: 40 :: 49 :: 41 :: r) x = some (41 :: r, ⟨x.at_ + 3, x.line, ((x.l ++ [⟨oneK c, ⟨#[c]⟩, (x.at_ : Int), x.line, false⟩]) ++ [⟨4, ⟨#[40]⟩, ((x.at_ + 1 : Nat) : Int), x.line, false⟩]) ++ [⟨2, ⟨#[49]⟩, ((x.at_ + 2 : Nat) : Int), x.line, false⟩], x.c⟩) := by
    rcases hc with rfl | rfl | rfl <;> (refine (?_ : _ = _); kernel_rfl)
  exact ⟨_, _, _, _, run, by simp only [List.append_assoc]; rfl, rfl, oneK_end hc _ _, ⟨rfl, rfl⟩, rfl⟩
theorem ends_one {c : UInt8} {t : Tok} (h : endT c t) : ends t = true := by
  rcases h with ⟨_, h⟩ | ⟨rfl, h, h2⟩
  · simp [ends, h]
  · have e : isIn endO ⟨#[41]⟩ = true := by kernel_rfl
    simp [ends, h, h2, e]
theorem tl_end (c : UInt8) (hc : c = 97 ∨ c = 98 ∨ c = 41) (x : SS) : ∃ x' t u, runL 2 [c, 10] x = some ([], x') ∧ x'.l = x.l ++ [t, u] ∧ x'.c = x.c ∧ endT c t ∧ u.kind = 6 := by
  have h5 : runL 2 [c, 10] x = some ([], { semi (addL (oneK c) [c] x) with at_ := (addL (oneK c) [c] x).at_ + 1, line := (addL (oneK c) [c] x).line + 1 }) := by
    rcases hc with rfl | rfl | rfl <;> (refine (?_ : _ = _); kernel_rfl)
  have he := oneK_end hc (x.at_ : Int) x.line
  have h3 : semi (addL (oneK c) [c] x) = { addL (oneK c) [c] x with l := x.l ++ [⟨oneK c, ⟨#[c]⟩, (x.at_ : Int), x.line, false⟩] ++ [⟨6, ⟨#[59]⟩, (addL (oneK c) [c] x).at_, (addL (oneK c) [c] x).line, true⟩] } := by
    unfold semi
    have : ((addL (oneK c) [c] x).l.getLast?.any ends) = true := by
      have : (addL (oneK c) [c] x).l = x.l ++ [⟨oneK c, ⟨#[c]⟩, (x.at_ : Int), x.line, false⟩] := rfl
      rw [this]
      simp [ends_one he]
    rw [if_pos this]
    rfl
  exact ⟨_, _, _, h5, by rw [h3]; exact List.append_assoc x.l [_] [_], by rw [h3]; rfl, he, rfl⟩
theorem tl_ways : ∀ (l : List Bool) (c : UInt8), c = 97 ∨ c = 98 ∨ c = 41 → ∀ x : SS, ∃ z t r, Ways (c :: tlB l) x z ∧ z.l = x.l ++ t :: r ∧ z.c = x.c ∧ endT c t ∧ rowT l r
  | [], c, hc, x => by
    obtain ⟨x', t, u, h1, h2, h3, h4, h5⟩ := tl_end c hc x
    exact ⟨x', t, [u], .run h1 .done, h2, h3, h4, h5⟩
  | true :: l, c, hc, x => by
    obtain ⟨x', t, o, h1, h2, h3, h4, h5⟩ := tl_run1 c hc (tlB l) x
    obtain ⟨z, t2, r, g1, g2, g3, g4, g5⟩ := tl_ways l 98 (.inr (.inl rfl)) x'
    have g4 : t2.kind = 1 := by
      rcases g4 with ⟨_, h⟩ | ⟨h, _⟩
      · exact h
      · cases h
    exact ⟨z, t, o :: t2 :: r, .run h1 g1, by rw [g2, h2]; simp, by rw [g3, h3], h4, h5, g4, g5⟩
  | false :: l, c, hc, x => by
    obtain ⟨x', t, o, n, h1, h2, h3, h4, h5, h6⟩ := tl_run2 c hc (tlB l) x
    obtain ⟨z, t2, r, g1, g2, g3, g4, g5⟩ := tl_ways l 41 (.inr (.inr rfl)) x'
    have g4 : isO t2 41 := by
      rcases g4 with ⟨h, _⟩ | ⟨_, h⟩
      · exact absurd rfl h
      · exact h
    exact ⟨z, t, o :: n :: t2 :: r, .run h1 g1, by rw [g2, h2]; simp, by rw [g3, h3], h4, h5, h6, g4, g5⟩
theorem tlB_plain : ∀ l, (tlB l).all plain = true
  | [] => by kernel_rfl
  | true :: l => by
    have h1 : plain 46 = true := by kernel_rfl
    have h2 : plain 98 = true := by kernel_rfl
    simp only [tlB, List.all_cons, tlB_plain l, h1, h2, Bool.and_self]
  | false :: l => by
    have h1 : plain 40 = true := by kernel_rfl
    have h2 : plain 49 = true := by kernel_rfl
    have h3 : plain 41 = true := by kernel_rfl
    simp only [tlB, List.all_cons, tlB_plain l, h1, h2, h3, Bool.and_self]
theorem rowT_last : ∀ {l r}, rowT l r → (∃ r0 u, r = r0 ++ [u] ∧ u.kind = 6) ∧ r.length ≤ 3 * l.length + 1
  | [], [u], h => ⟨⟨[], u, rfl, h⟩, by simp⟩
  | true :: l, o :: t :: r, h => by
    obtain ⟨⟨r0, u, h1, h2⟩, h3⟩ := rowT_last h.2.2
    exact ⟨⟨o :: t :: r0, u, by rw [h1]; rfl, h2⟩, by simp only [List.length_cons]; omega⟩
  | false :: l, o :: n :: t :: r, h => by
    obtain ⟨⟨r0, u, h1, h2⟩, h3⟩ := rowT_last h.2.2.2
    exact ⟨⟨o :: n :: t :: r0, u, by rw [h1]; rfl, h2⟩, by simp only [List.length_cons]; omega⟩
end Pl
end Go.Proofs.Dm
