/- The D-machine, part M: statements, code, functions. -/
import Derived.Test.YtcacihiiilemgaaDmL
import Derived.Deep.LoopGhost
set_option linter.unusedVariables false
set_option linter.unusedSimpArgs false
namespace Go.Proofs.Dm
open Go Go.RowKit

/-! ### Which loads and moves take a slice of the call's own out of its place: those whose slot is only handed on -/
def handsOn (t : Tmp) (o : Oper) : Bool :=
  if o.op.operands.any (isTmp t) then
    match o.op with
    | .assign _ => true
    | .store _ a _ => !(isTmp t a)
    | .build _ _ => true
    | .buildSlice _ _ _ => true
    | .call c => match c.callee, c.args.toList with
      | .builtin .append, [x, y] => isTmp t x && !(isTmp t y)
      | _, _ => false
    | _ => false
  else true
def takes (ops : List Oper) (o : Oper) : Bool :=
  match o.dst with
  | some t => ops.all (handsOn t) && ops.any (fun q => q.op.operands.any (isTmp t))
  | none => false

/-- Is an operation carried out? -/
def guardD (ops : Array Oper) (o : Oper) (s : St) : Option Bool :=
  match o.guard with
  | none => some true
  | some (j, want) => match (ops[j]?).bind (·.dst) with
    | some t => match s.tm t with
      | .p (.bool b) => some (b == want)
      | .ud => some false
      | _ => none
    | none => none

theorem guardD_ok {C w0 h0 ow0 r0 n s a w h ow ρ} (r : Rel C w0 h0 ow0 r0 n s a w h ow ρ) {ops : Array Oper} {o : Oper} {b : Bool} (e : guardD ops o s = some b) : Region.wanted o (yielded ops a.tmps) = b := by
  unfold guardD at e
  unfold Region.wanted
  split at e
  · rename_i hg; injection e with e; subst e; rw [hg]
  · rename_i j want hg
    rw [hg]
    split at e
    · rename_i t ht
      split at e
      · rename_i b' hb
        injection e with e; subst e
        have := r.tm t
        rw [hb] at this
        simp only [RepD, Rep] at this
        have hlt : t < n := by
          rcases Nat.lt_or_ge t n with q | q
          · exact q
          · rw [r.dom t q] at hb; cases hb
        have hget : a.tmps[t]? = some (.bool b') := by
          have hl : t < a.tmps.size := by rw [r.size]; exact hlt
          rw [Array.getD_eq_getD_getElem?, Array.getElem?_eq_getElem hl] at this
          rw [Array.getElem?_eq_getElem hl]
          simpa using this
        simp only [yielded, ht, Option.bind_some, hget]
        cases b' <;> cases want <;> rfl
      · rename_i hb
        injection e with e; subst e
        have := r.tm t
        rw [hb] at this
        simp only [RepD] at this
        have hlt : t < n := by
          rcases Nat.lt_or_ge t n with q | q
          · exact q
          · rw [r.dom t q] at hb; cases hb
        have hget : a.tmps[t]? = some undef := by
          have hl : t < a.tmps.size := by rw [r.size]; exact hlt
          rw [Array.getD_eq_getD_getElem?, Array.getElem?_eq_getElem hl] at this
          rw [Array.getElem?_eq_getElem hl]
          simpa using this
        simp only [yielded, ht, Option.bind_some, hget]
        cases want <;> rfl
      · cases e
    · cases e

/-- One operation, whatever it is. -/
def opTo (C : Ctx) (n : Nat) (tk : Bool) (o : Oper) (s s' : St) : Prop :=
  match o.op with
  | .call c => match c.callee with
    | .value x => callTo C n o c x s s'
    | _ => stepD C.P n tk o s = some s'
  | _ => stepD C.P n tk o s = some s'
theorem opTo_ok {C w0 h0 ow0 r0 n tk o s s'} (e : opTo C n tk o s s') : StepOK C w0 h0 ow0 r0 n o s s' := by
  unfold opTo at e
  split at e
  · rename_i c hop
    split at e
    · rename_i x hc; exact callTo_ok hop hc e
    · exact stepD_ok e
  · exact stepD_ok e

/-- The operations of a statement, one behind the other. -/
def opsTo (C : Ctx) (n : Nat) (ops : Array Oper) : List Oper → St → St → Prop
  | [], s, s' => s = s'
  | o :: rest, s, s' => ∃ g, guardD ops o s = some g ∧ dstOk n o.dst = true ∧ ∃ s1, (if g then opTo C n (takes ops.toList o) o s s1 else s1 = s.put o.dst .ud) ∧ opsTo C n ops rest s1 s'

theorem opsTo_ok {C w0 h0 ow0 r0 n} {ops : Array Oper} {Q : Exit → Act → World → Prop} : ∀ (l : List Oper) (s s' : St), opsTo C n ops l s s' → (Good C w0 h0 ow0 r0 n s' (Q .normal)) →
    Good C w0 h0 ow0 r0 n s (fun a w => wpList C.P ops Q l a w)
  | [], s, s', e, hK => by
    simp only [opsTo] at e; subst e
    intro a w h ow ρ r
    exact hK a w h ow ρ r
  | o :: rest, s, s', e, hK => by
    obtain ⟨g, hg, hd, s1, h1, h2⟩ := e
    have ih := opsTo_ok rest s1 s' h2 hK
    intro a w h ow ρ r
    have hw := guardD_ok r hg
    unfold wpList
    cases g with
    | true =>
      rw [if_pos hw]
      simp only [if_true] at h1
      exact .inl (opTo_ok h1 a w h ow ρ r _ Q ih)
    | false =>
      rw [if_neg (by rw [hw]; simp)]
      simp only [Bool.false_eq_true, if_false] at h1
      subst h1
      exact ih _ _ _ _ _ (r.put o.dst hd fun O => by simp only [RepD])

end Go.Proofs.Dm
