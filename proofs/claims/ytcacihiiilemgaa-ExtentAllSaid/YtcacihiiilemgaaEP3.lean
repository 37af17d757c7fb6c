/- Part of the proof: contracts of the functions, walked by the D-machine. No condition. -/
import Derived.Test.YtcacihiiilemgaaEP2
set_option linter.unusedSimpArgs false
set_option linter.unusedVariables false
namespace Go.Proofs.Dm
open Go
/-- The law's own row. -/
def lawF (A : Nat) (fr : List Bool) : List Bool := List.replicate A false ++ (fr ++ List.replicate (130 - A - fr.length) false)
theorem lawF_len {A : Nat} {fr : List Bool} (h : A + fr.length ≤ 130) : (lawF A fr).length = 130 := by simp [lawF]; omega
theorem lawF_getD {A : Nat} {fr : List Bool} (q : Nat) : (lawF A fr).getD q false = if A ≤ q ∧ q < A + fr.length then fr.getD (q - A) false else false := by
  unfold lawF
  simp only [List.getD_eq_getElem?_getD]
  by_cases h1 : q < A
  · rw [if_neg (by omega), List.getElem?_append_left (by simpa using h1), List.getElem?_replicate, if_pos h1]; rfl
  · rw [List.getElem?_append_right (by simp; omega), List.length_replicate]
    by_cases h2 : q < A + fr.length
    · rw [if_pos ⟨by omega, h2⟩, List.getElem?_append_left (by omega)]
    · rw [if_neg (by omega), List.getElem?_append_right (by omega), List.getElem?_replicate]
      split <;> rfl
theorem lawF_fill {A p n : Nat} {fr : List Bool} {b : Bool} (h : A + fr.length ≤ 130) (hp : p + n ≤ fr.length) : fillN (lawF A fr) (A + p) n b = lawF A (fillN fr p n b) := by
  have hl := lawF_len h
  have hl2 : (fillN fr p n b).length = fr.length := fillN_len hp
  refine ext_getD (by rw [fillN_len (by omega), hl, lawF_len (by omega)]) fun q hq => ?_
  rw [getD_fill (by omega), lawF_getD, lawF_getD, hl2, getD_fill hp]
  by_cases h1 : A + p ≤ q ∧ q < A + p + n
  · rw [if_pos h1, if_pos (by omega), if_pos (by omega)]
  · rw [if_neg h1]
    by_cases h2 : A ≤ q ∧ q < A + fr.length
    · rw [if_pos h2, if_pos h2, if_neg (by omega)]
    · rw [if_neg h2, if_neg h2]
theorem spansN_pre {at_ : Int} {l r : List Bool} : ∀ i, i ≤ l.length → spansN at_ (l ++ r) i = spansN at_ l i
  | 0, _ => rfl
  | i + 1, hi => by
    have g : ∀ q, q < l.length → (l ++ r).getD q false = l.getD q false := fun q hq => by
      rw [List.getD_eq_getElem?_getD, List.getD_eq_getElem?_getD, List.getElem?_append_left hq]
    simp only [spansN]
    rw [spansN_pre i (by omega), g i (by omega), g (i - 1) (by omega)]
theorem spansN_post {at_ : Int} {l : List Bool} {k : Nat} : ∀ j, j ≤ k → spansN at_ (l ++ List.replicate k false) (l.length + j) = spansN at_ l l.length
  | 0, _ => spansN_pre _ (Nat.le_refl _)
  | j + 1, hj => by
    have g : (l ++ List.replicate k false).getD (l.length + j) false = false := by
      rw [List.getD_eq_getElem?_getD, List.getElem?_append_right (by omega), List.getElem?_replicate]
      split <;> rfl
    have e : l.length + (j + 1) = l.length + j + 1 := by omega
    rw [e]
    simp only [spansN]
    rw [if_pos g]
    exact spansN_post j (by omega)
theorem spansN_shift {A : Nat} {l : List Bool} : ∀ i, i ≤ l.length → spansN 0 (List.replicate A false ++ l) (A + i) = spansN A l i
  | 0, _ => by
    have : ∀ a, a ≤ A → spansN 0 (List.replicate A false ++ l) a = [] := by
      intro a
      induction a with
      | zero => intro _; rfl
      | succ a ih =>
        intro ha
        have g : (List.replicate A false ++ l).getD a false = false := by
          rw [List.getD_eq_getElem?_getD, List.getElem?_append_left (by simp; omega), List.getElem?_replicate, if_pos (by omega)]; rfl
        simp only [spansN]
        rw [if_pos g]; exact ih (by omega)
    simpa [spansN] using this A (Nat.le_refl _)
  | i + 1, hi => by
    have g : ∀ q, (List.replicate A false ++ l).getD (A + q) false = l.getD q false := fun q => by
      rw [List.getD_eq_getElem?_getD, List.getD_eq_getElem?_getD, List.getElem?_append_right (by simp)]
      congr 2
      simp
    have e : A + (i + 1) = A + i + 1 := by omega
    rw [e]
    simp only [spansN]
    rw [spansN_shift i (by omega), g i]
    have c1 : (0 < A + i ∧ (List.replicate A false ++ l).getD (A + i - 1) false = true) ↔ (0 < i ∧ l.getD (i - 1) false = true) := by
      by_cases h0 : i = 0
      · subst h0
        constructor
        · rintro ⟨h1, h2⟩
          rw [List.getD_eq_getElem?_getD, List.getElem?_append_left (by simp; omega), List.getElem?_replicate, if_pos (by omega)] at h2
          cases h2
        · rintro ⟨h1, _⟩; omega
      · have e2 : A + i - 1 = A + (i - 1) := by omega
        rw [e2, g (i - 1)]
        constructor
        · rintro ⟨_, h⟩; exact ⟨by omega, h⟩
        · rintro ⟨_, h⟩; exact ⟨by omega, h⟩
    have e4 : (0 : Int) + ((A + i : Nat) : Int) = (A : Int) + i := by omega
    simp only [c1, e4]
theorem lawF_spans {A : Nat} {fr : List Bool} (h : A + fr.length ≤ 130) : spansP A fr = spansP 0 (lawF A fr) := by
  unfold spansP
  rw [lawF_len h]
  have h1 := spansN_shift (A := A) (l := fr ++ List.replicate (130 - A - fr.length) false) (130 - A) (by simp; omega)
  have e : A + (130 - A) = 130 := by omega
  rw [e] at h1
  have h2 := spansN_post (at_ := (A : Int)) (l := fr) (k := 130 - A - fr.length) (130 - A - fr.length) (Nat.le_refl _)
  have e2 : fr.length + (130 - A - fr.length) = 130 - A := by omega
  rw [e2] at h2
  unfold lawF
  rw [h1, h2]
theorem lawF_count {A : Nat} {fr : List Bool} : fr.count true = (lawF A fr).count true := by
  simp [lawF, List.count_append, List.count_replicate]
theorem allP_law {A : Nat} {a l : Int} {fr : List Bool} {b : Bool} (h1 : 1 ≤ l) (h2 : (A : Int) ≤ a) (h3 : l ≤ A + fr.length - a) : allP A fr a l b = true ↔ ∀ k : Nat, (k : Int) < l → (lawF A fr).getD (a.toNat + k) false = b := by
  rw [allP_iff]
  constructor
  · rintro ⟨_, _, _, h⟩ k hk
    rw [lawF_getD, if_pos (by omega)]
    have := h k hk
    have e : a.toNat + k - A = (a - A).toNat + k := by omega
    rw [e]; exact this
  · intro h
    refine ⟨h1, h2, by omega, fun k hk => ?_⟩
    have := h k hk
    rw [lawF_getD, if_pos (by omega)] at this
    have e : a.toNat + k - A = (a - A).toNat + k := by omega
    rw [e] at this; exact this
theorem allP_out {A : Nat} {a l : Int} {fr : List Bool} {b : Bool} (h : ¬ (1 ≤ l ∧ (A : Int) ≤ a ∧ l ≤ A + fr.length - a)) : allP A fr a l b = false := by
  cases hc : allP A fr a l b with
  | false => rfl
  | true => rw [allP_iff] at hc; omega
theorem setP_law {A : Nat} {a l : Int} {fr : List Bool} {b : Bool} (h : A + fr.length ≤ 130) (ha : allP A fr a l (!b) = true) : lawF A (setP A fr a l b) = fillN (lawF A fr) a.toNat l.toNat b ∧ a.toNat + l.toNat ≤ A + fr.length ∧ 1 ≤ l ∧ (A : Int) ≤ a := by
  obtain ⟨h1, h2, h3, h4⟩ := allP_true ha
  unfold setP
  rw [if_pos ha]
  have := lawF_fill (b := b) h (p := (a - A).toNat) (n := l.toNat) (by omega)
  have e : A + (a - (A : Int)).toNat = a.toNat := by omega
  rw [e] at this
  exact ⟨this.symm, by omega, h1, h3⟩
end Go.Proofs.Dm
