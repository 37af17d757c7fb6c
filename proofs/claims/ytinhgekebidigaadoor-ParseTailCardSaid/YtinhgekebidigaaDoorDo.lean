/- The grammar's plain part: parsers that stop at their first fault (G), computations with a state that go on behind one (M), and what it is for the second to agree with the first. -/
import Derived.Test.YtinhgekebidigaaDoorDa
set_option linter.unusedVariables false
set_option linter.unusedSimpArgs false
namespace Go.Proofs.Dm.Gr

inductive Res (α : Type) where
  | ok (x : α) (a : Nat)
  | bad (k : Nat)
  | out
/-- deep, at -/
abbrev G (α : Type) := Nat → Nat → Res α
def Res.andThen {α β : Type} (r : Res α) (f : α → Nat → Res β) : Res β := match r with
  | .ok x a => f x a
  | .bad k => .bad k
  | .out => .out
def bind {α β : Type} (s : G α) (f : α → G β) : G β := fun d a => (s d a).andThen fun x a' => f x d a'
def pure {α : Type} (x : α) : G α := fun _ a => .ok x a
def fail {α : Type} : G α := fun _ a => .bad a
def stop {α : Type} : G α := fun _ _ => .out
def ite {α : Type} (b : Bool) (s t : G α) : G α := fun d a => if b then s d a else t d a
def nest {α : Type} (s : G α) : G α := fun d a => if 40 < d + 1 then .bad a else s (d + 1) a

abbrev M (σ α : Type) := σ → Option (α × σ)
def mb {σ α β : Type} (m : M σ α) (f : α → M σ β) : M σ β := fun p => (m p).bind fun r => f r.1 r.2
def mp {σ α : Type} (x : α) : M σ α := fun p => some (x, p)
def mi {σ α : Type} (b : Bool) (s t : M σ α) : M σ α := fun p => if b then s p else t p
def mu {σ : Type} (f : σ → σ) : M σ Unit := fun p => some ((), f p)

structure Sty (σ : Type) where
  emb : Nat → Nat → σ
  flt : σ → Int

variable {σ α β : Type} {Y : Sty σ} {L : Nat}
def Agr1 (Y : Sty σ) (L : Nat) (d : Nat) (Q : α → Prop) (r : Res α) (o : Option (α × σ)) : Prop := match r with
  | .ok x a' => a' < L ∧ o = some (x, Y.emb d a') ∧ Q x
  | .bad k => ∃ x p, o = some (x, p) ∧ Y.flt p = k ∧ Q x
  | .out => True
def Agr (Y : Sty σ) (L : Nat) (d : Nat) (Q : α → Prop) (s : G α) (m : M σ α) : Prop := ∀ a, a < L → Agr1 Y L d Q (s d a) (m (Y.emb d a))
def Tame (Y : Sty σ) (Q : α → Prop) (m : M σ α) : Prop := ∀ p, 0 ≤ Y.flt p → ∃ x p', m p = some (x, p') ∧ Y.flt p' = Y.flt p ∧ Q x
def T {α : Type} : α → Prop := fun _ => True

theorem Tame.bind {Q : α → Prop} {R : β → Prop} {m : M σ α} {f : α → M σ β} (h : Tame Y Q m) (hf : ∀ x, Q x → Tame Y R (f x)) : Tame Y R (mb m f) := by
  intro p hp
  obtain ⟨x, p1, h1, h2, h0⟩ := h p hp
  obtain ⟨y, p2, h3, h4, h5⟩ := hf x h0 p1 (by omega)
  exact ⟨y, p2, by simp only [mb, h1, Option.bind_some, h3], by omega, h5⟩
theorem Tame.mp {Q : α → Prop} {x : α} (hx : Q x) : Tame Y Q (Gr.mp x : M σ α) := fun p _ => ⟨x, p, rfl, rfl, hx⟩
theorem Tame.mi {Q : α → Prop} {b : Bool} {s t : M σ α} (h1 : Tame Y Q s) (h2 : Tame Y Q t) : Tame Y Q (Gr.mi b s t) := by cases b <;> assumption
theorem Tame.mu {f : σ → σ} (h : ∀ p, 0 ≤ Y.flt p → Y.flt (f p) = Y.flt p) : Tame Y T (Gr.mu f) := fun p hp => ⟨(), f p, rfl, h p hp, True.intro⟩
theorem Tame.weak {Q R : α → Prop} {m : M σ α} (h : Tame Y Q m) (hq : ∀ x, Q x → R x) : Tame Y R m := fun p hp => by
  obtain ⟨x, p1, h1, h2, h0⟩ := h p hp
  exact ⟨x, p1, h1, h2, hq x h0⟩

theorem Agr.bind {Q : α → Prop} {R : β → Prop} {d : Nat} {s : G α} {m : M σ α} {t : α → G β} {f : α → M σ β} (h : Agr Y L d Q s m) (ht : ∀ x, Q x → Agr Y L d R (t x) (f x)) (hf : ∀ x, Q x → Tame Y R (f x)) : Agr Y L d R (Gr.bind s t) (mb m f) := by
  intro a ha
  have h1 := h a ha
  unfold Gr.bind mb
  cases hs : s d a with
  | ok x a' =>
    rw [hs] at h1
    obtain ⟨h2, h3, h4⟩ := h1
    simp only [Res.andThen, h3, Option.bind_some]
    exact ht x h4 a' h2
  | bad k =>
    rw [hs] at h1
    obtain ⟨x, p, h3, h4, h0⟩ := h1
    obtain ⟨y, p2, h5, h6, h7⟩ := hf x h0 p (by omega)
    simp only [Res.andThen, h3, Option.bind_some, Agr1]
    exact ⟨y, p2, h5, by omega, h7⟩
  | out => simp only [Res.andThen, Agr1]
theorem Agr.pure {Q : α → Prop} {d : Nat} {x : α} (hx : Q x) : Agr Y L d Q (Gr.pure x) (Gr.mp x) := fun a ha => ⟨ha, rfl, hx⟩
theorem Agr.ite {Q : α → Prop} {d : Nat} {b : Bool} {s t : G α} {m n : M σ α} (h1 : Agr Y L d Q s m) (h2 : Agr Y L d Q t n) : Agr Y L d Q (Gr.ite b s t) (Gr.mi b m n) := by cases b <;> assumption
theorem Agr.out {Q : α → Prop} {d : Nat} {m : M σ α} : Agr Y L d Q stop m := fun _ _ => True.intro
theorem Agr.weak {Q R : α → Prop} {d : Nat} {s : G α} {m : M σ α} (h : Agr Y L d Q s m) (hq : ∀ x, Q x → R x) : Agr Y L d R s m := fun a ha => by
  have h1 := h a ha
  cases hs : s d a with
  | ok x a' => rw [hs] at h1; exact ⟨h1.1, h1.2.1, hq x h1.2.2⟩
  | bad k =>
    rw [hs] at h1
    obtain ⟨x, p, h3, h4, h0⟩ := h1
    exact ⟨x, p, h3, h4, hq x h0⟩
  | out => exact True.intro
/-- A nesting: opened, gone through, closed. -/
theorem Agr.nest {Q : α → Prop} {d : Nat} {s : G α} {m : M σ α} {op cl : σ → σ} (h : ¬ 40 < d + 1 → Agr Y L (d + 1) Q s m) (hm : Tame Y Q m)
    (h1 : ∀ a, a < L → ¬ 40 < d + 1 → op (Y.emb d a) = Y.emb (d + 1) a) (h2 : ∀ a, a < L → 40 < d + 1 → Y.flt (op (Y.emb d a)) = a) (h3 : ∀ a, a < L → ¬ 40 < d + 1 → cl (Y.emb (d + 1) a) = Y.emb d a) (h4 : ∀ p, Y.flt (cl p) = Y.flt p) :
    Agr Y L d Q (Gr.nest s) (fun p => (m (op p)).bind fun r => some (r.1, cl r.2)) := by
  intro a ha
  unfold Gr.nest
  dsimp only
  split
  · rename_i hd
    obtain ⟨x, p, q1, q2, q3⟩ := hm (op (Y.emb d a)) (by rw [h2 a ha hd]; omega)
    exact ⟨x, cl p, by rw [q1]; rfl, by rw [h4, q2, h2 a ha hd], q3⟩
  · rename_i hd
    rw [h1 a ha hd]
    have := h hd a ha
    cases hs : s (d + 1) a with
    | ok x a' =>
      rw [hs] at this
      exact ⟨this.1, by rw [this.2.1]; simp [h3 a' this.1 hd], this.2.2⟩
    | bad k =>
      rw [hs] at this
      obtain ⟨x, p, q1, q2, q3⟩ := this
      exact ⟨x, cl p, by rw [q1]; rfl, by rw [h4, q2], q3⟩
    | out => exact True.intro
end Go.Proofs.Dm.Gr
