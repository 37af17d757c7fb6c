/- The D-machine, part E: slots handed on; boxes made, read, written. -/
import Derived.Test.YtcacihiiilemgaaDmD
set_option linter.unusedVariables false
set_option linter.unusedSimpArgs false
namespace Go.Proofs.Dm
open Go Go.RowKit

mutual
def hasOwn : DV → Bool
  | .own _ _ _ => true
  | .mt _ _ => true
  | .agg cs => hasOwns cs
  | .tup cs => hasOwns cs
  | .fn _ cs => hasOwns cs
  | _ => false
def hasOwns : List DV → Bool
  | [] => false
  | d :: ds => hasOwn d || hasOwns ds
end
mutual
theorem RepD.free {w h ρ} : ∀ (d : DV) (O O' : Nat → List Nat → Prop) (v : Value), hasOwn d = false → RepD w h ρ d O v → RepD w h ρ d O' v
  | .own e z xs, O, O', v, k, r => by simp [hasOwn] at k
  | .mt e z, O, O', v, k, r => by simp [hasOwn] at k
  | .arr _ _ _ _, O, O', v, k, r => by simpa only [RepD] using r
  | .cp _ _, O, O', v, k, r => by simpa only [RepD] using r
  | .nil, O, O', v, k, r => by simpa only [RepD] using r
  | .agg cs, O, O', v, k, r => by
    simp only [hasOwn] at k
    simp only [RepD] at r ⊢
    obtain ⟨vs, hv, hr⟩ := r
    exact ⟨vs, hv, RepDs.free cs O O' 0 _ k hr⟩
  | .tup cs, O, O', v, k, r => by
    simp only [hasOwn] at k
    simp only [RepD] at r ⊢
    obtain ⟨vs, hv, hr⟩ := r
    exact ⟨vs, hv, RepDs.free cs O O' 0 _ k hr⟩
  | .fn f cap, O, O', v, k, r => by
    simp only [hasOwn] at k
    simp only [RepD] at r ⊢
    obtain ⟨vs, hv, hr⟩ := r
    exact ⟨vs, hv, RepDs.free cap O O' 0 _ k hr⟩
  | .p x, O, O', v, k, r => by simpa only [RepD] using r
  | .ref id off, O, O', v, k, r => by simpa only [RepD] using r
  | .fr cs, O, O', v, k, r => by simpa only [RepD] using r
  | .un, O, O', v, k, r => by simp only [RepD]
  | .ud, O, O', v, k, r => by simpa only [RepD] using r
theorem RepDs.free {w h ρ} : ∀ (ds : List DV) (O O' : Nat → List Nat → Prop) (k : Nat) (vs : List Value), hasOwns ds = false → RepDs w h ρ ds O k vs → RepDs w h ρ ds O' k vs
  | [], _, _, _, _, _, r => by simpa only [RepDs] using r
  | d :: ds, O, O', k, vs, q, r => by
    simp only [hasOwns, Bool.or_eq_false_iff] at q
    simp only [RepDs] at r ⊢
    obtain ⟨v, rest, hv, h1, h2⟩ := r
    exact ⟨v, rest, hv, RepD.free d _ _ v q.1 h1, RepDs.free ds _ _ _ rest q.2 h2⟩
end
theorem evOK {C w0 h0 ow0 r0 n s a w h ow ρ} (r : Rel C w0 h0 ow0 r0 n s a w h ow ρ) : EvOK w h ρ (evalD s) a.eval := fun x d e => ⟨_, evalD_rep r e⟩

/-- nil, where the type says what of. -/
def coerD (P : Program) (t : TypeId) : DV → DV
  | .nil => match tslice P t with
    | some e => match tsz P e with
      | some z => if 0 < z then .own e z [] else .nil
      | none => .nil
    | none => .nil
  | d => d
theorem coerD_wk (P : Program) (t : TypeId) (d : DV) : Wk d (coerD P t d) := by
  unfold coerD
  split
  · split
    · split
      · split
        · rename_i h; exact .nilown _ _ h
        · exact .refl _
      · exact .refl _
    · exact .refl _
  · exact .refl _
/-- Of a value that bears no owner: coerced, it bears none. -/
theorem coerD_any {w h ρ} (P : Program) (t : TypeId) {d : DV} {v : Value} (r : ∀ O, RepD w h ρ d O v) : ∀ O, RepD w h ρ (coerD P t d) O v := fun O => RepD.wk (coerD_wk P t d) (r O)

/-- Owners' names that are handed on, where the world stays. -/
theorem Rel.names {C w0 h0 ow0 r0 n s a w h ow ρ} (r : Rel C w0 h0 ow0 r0 n s a w h ow ρ) (ow' : Own) (s' : St) (a' : Act)
    (hnone : ∀ g, ow g = none → ow' g = none) (hsome : ∀ g, ow' g ≠ none → ow g ≠ none) (hbox : ∀ g i, ow g = some (.box i) → ow' g = some (.box i))
    (hhp : s'.hp = s.hp) (hcell : ∀ g p, ow g = some (.cell p) → ow' g = some (.cell p))
    (hdef : a'.defers = []) (hsize : a'.tmps.size = n) (hdom : ∀ i, n ≤ i → s'.tm i = .un)
    (htm : ∀ i, RepD w h ρ (s'.tm i) (fun g p => ow' g = some (.tmp (i :: p))) (a'.tmps.getD i undef)) :
    Rel C w0 h0 ow0 r0 n s' a' w h ow' ρ := by
  refine ⟨⟨r.glob.nb, fun b hb => ⟨(r.glob.eq b hb).1, hnone b (r.glob.eq b hb).2⟩⟩, ⟨r.fr.st, r.fr.size, r.fr.os, r.fr.tape, r.fr.output, fun b hb ho => ?_⟩, ?_, hdef, hsize, htm, hdom, r.pre⟩
  · obtain ⟨p, q, t⟩ := r.fr.keep b hb ho
    exact ⟨p, q, hnone b t⟩
  · rw [hhp]
    refine ⟨r.hr.len, fun id box b h1 h2 hne => ?_, fun g hg => r.hr.lt g (hsome g hg), r.hr.hz⟩
    obtain ⟨p, q, cs, T, hh, hl, hr⟩ := r.hr.box id box b h1 h2 hne
    exact ⟨hbox b id p, q, cs, T, hh, hl, hr.rename fun g p ho => hcell g _ ho⟩

/-! ### A slot handed on -/
def mvTmp (t d : Nat) : Pos → Pos
  | .tmp (i :: p) => if i = t then .tmp (d :: p) else .tmp (i :: p)
  | x => x
theorem Rel.moved {C w0 h0 ow0 r0 n s a w h ow ρ} (r : Rel C w0 h0 ow0 r0 n s a w h ow ρ) (t d : Nat) (hd : d < n) (dv : DV) (hk : Wk (s.tm t) dv) :
    Rel C w0 h0 ow0 r0 n ((s.put (some t) .un).put (some d) dv) (a.put (some d) (a.tmps.getD t undef)) w h (fun g => (ow g).map (mvTmp t d)) ρ := by
  have hd' : d < a.tmps.size := by rw [r.size]; exact hd
  refine r.names _ _ _ (fun g hg => by simp [hg]) (fun g hg e => hg (by simp [e])) (fun g i hg => by simp [hg, mvTmp]) rfl (fun g p hg => by simp [hg, mvTmp]) r.defers
    (by simpa [Act.put] using r.size) (fun i hi => ?_) (fun i => ?_)
  · simp only [St.put]
    rw [if_neg (fun e => by rw [e] at hi; exact absurd hi (Nat.not_le_of_gt hd))]
    split
    · rfl
    · exact r.dom i hi
  · rw [getD_put a d _ i hd']
    simp only [St.put]
    by_cases hid : i = d
    · rw [if_pos hid, if_pos hid]
      exact RepD.wk hk ((r.tm t).rename fun g p ho => by simp [ho, mvTmp, hid])
    · rw [if_neg hid, if_neg hid]
      by_cases hit : i = t
      · rw [if_pos hit]; simp only [RepD]
      · rw [if_neg hit]
        exact (r.tm i).rename fun g p ho => by simp [ho, mvTmp, hit]

def moveD (P : Program) (tk : Bool) (o : Oper) (x : Operand) (s : St) : Option St :=
  match x with
  | .tmp t => if hasOwn (s.tm t) then (if tk then (match o.dst with
      | some d => some ((s.put (some t) .un).put (some d) (s.tm t))
      | none => none) else some (s.put o.dst (fz (s.tm t)))) else some (s.put o.dst (coerD P o.type (s.tm t)))
  | x => match evalD s x with
    | some d => some (s.put o.dst (coerD P o.type d))
    | none => none
/-- Where an operation has come to: whatever goes on from the new state goes on. -/
def StepOK (C : Ctx) (w0 : World) (h0 : Mark) (ow0 : Own) (r0 : List Nat) (n : Nat) (o : Oper) (s s' : St) : Prop :=
  ∀ a w h ow ρ, Rel C w0 h0 ow0 r0 n s a w h ow ρ → ∀ (K : Act → World → Prop) Q, Good C w0 h0 ow0 r0 n s' K → o.wp C.P a w K Q

theorem moveD_ok {C w0 h0 ow0 r0 n tk o x s s'} (hop : o.op = .move x ∨ o.op = .assign x) (hd : dstOk n o.dst = true) (e : moveD C.P tk o x s = some s') : StepOK C w0 h0 ow0 r0 n o s s' := by
  intro a w h ow ρ r K Q hK
  have hrun : (execOp a.eval o).run C.P w = .ok (.value (a.eval x)) w := by
    rcases hop with h | h <;> simp [execOp, h]
  unfold Oper.wp
  rw [hrun]
  show K (a.put o.dst (a.eval x)) w
  unfold moveD at e
  split at e
  · rename_i t
    split at e
    · split at e
      · split at e
        · rename_i d hdst
          injection e with e; subst e
          rw [hdst] at hd ⊢
          exact hK _ _ _ _ _ (r.moved t d (by simpa [dstOk] using hd) _ (.refl _))
        · cases e
      · injection e with e; subst e
        exact hK _ _ _ _ _ (r.put o.dst hd fun O => RepD.fz _ _ _ _ (r.tm t))
    · rename_i ho
      injection e with e; subst e
      exact hK _ _ _ _ _ (r.put o.dst hd (coerD_any C.P o.type fun O => RepD.free _ _ _ _ (by simpa using ho) (r.tm t)))
  · rename_i hx
    split at e
    · rename_i d hd'
      injection e with e; subst e
      refine hK _ _ _ _ _ (r.put o.dst hd (coerD_any C.P o.type fun O => ?_))
      have := evalD_rep r hd'
      cases x with
      | tmp t => exact absurd rfl (hx t)
      | const v => exact constD_rep hd'
      | func f => simp only [evalD, Option.some.injEq] at hd'; subst hd'; simp only [RepD, RepDs]; exact ⟨#[], rfl, rfl⟩
      | global g => simp [evalD] at hd'
    · cases e

/-! ### What only reckons -/
theorem pureStep_ok {C w0 h0 ow0 r0 n o s d} (hd : dstOk n o.dst = true) (e : pureD C.P (evalD s) o.op = some d) : StepOK C w0 h0 ow0 r0 n o s (s.put o.dst d) := by
  intro a w h ow ρ r K Q hK
  obtain ⟨v, h1, h2⟩ := pureD_ok (P := C.P) (evOK r) e
  unfold Oper.wp
  rw [h1]
  exact hK _ _ _ _ _ (r.put o.dst hd h2)

/-! ### A new box -/
def cellsOf : DV → List DV
  | .agg cs => cs
  | d => [d]
mutual
def solid : DV → Bool
  | .un => false
  | .ud => false
  | .agg _ => false
  | .tup _ => false
  | _ => true
end
theorem solid_one {w h ρ d O v} (hs : solid d = true) (r : RepD w h ρ d O v) : v.oneCell' = true := by
  cases d with
  | p x => cases x <;> simp only [RepD, Rep] at r <;> first
      | (subst r; rfl)
      | (rcases r with ⟨_, _, _, rfl, _⟩ | ⟨_, _, _, rfl, _⟩ <;> rfl)
  | nil => simp only [RepD] at r; subst r; rfl
  | own e z xs =>
    simp only [RepD] at r
    obtain ⟨a, c, rfl, _⟩ := rep_slice r.freeze
    rfl
  | ref i o => simp only [RepD] at r; obtain ⟨b, _, rfl⟩ := r; rfl
  | fr cs => simp only [RepD] at r; obtain ⟨g, off, rfl, _⟩ := r; rfl
  | fn f c => simp only [RepD] at r; obtain ⟨vs, rfl, _⟩ := r; rfl
  | un => simp [solid] at hs
  | ud => simp [solid] at hs
  | agg cs => simp [solid] at hs
  | tup cs => simp [solid] at hs
  | arr i o z n => simp only [RepD] at r; obtain ⟨b, _, ⟨_, a, c, rfl, _⟩ | ⟨cap, _, _, _, _, rfl, _⟩⟩ := r <;> rfl
  | cp z xs => simp only [RepD] at r; obtain ⟨_, a, rfl⟩ := r; rfl
  | mt e z =>
    simp only [RepD] at r
    obtain ⟨a, c, rfl, _⟩ := rep_slice r.freeze
    rfl

theorem RepDs.takeAll {w h ρ ds O k} {cs : Array Value} (r : RepDs w h ρ ds O k cs.toList) : RepDs w h ρ ds O k (cs.toList.take ds.length) := by
  have := r.length
  rw [List.take_of_length_le (by omega)]; exact r
/-- A new block is a new box. -/
theorem Rel.newBox {C w0 h0 ow0 r0 n s a w h ow ρ} (r : Rel C w0 h0 ow0 r0 n s a w h ow ρ) (d : Nat) (hd : d < n) (box : List DV) (cs : Array Value) (T : TypeId)
    (hb : ∀ O k, RepDs w h ρ box O k (cs.toList.take box.length)) :
    Rel C w0 h0 ow0 r0 n ({ s.put (some d) (.ref s.hp.length 0) with hp := s.hp ++ [box] }) (a.put (some d) (.pointer (some ⟨w.heap.size, 0, none⟩))) (w.alloc (.cells cs T)) h
      (fun g => if g = w.heap.size then some (.box ρ.length) else ow g) (ρ ++ [w.heap.size]) := by
  have hd' : d < a.tmps.size := by rw [r.size]; exact hd
  have hst : Stable w h (w.alloc (.cells cs T)) h := ⟨fun _ => Nat.le_refl _, fun b i hi => by
    have hlt : b < w.heap.size := by
      rcases Nat.lt_or_ge b w.heap.size with q | q
      · exact q
      · rw [r.hr.hz b q] at hi; omega
    simp only [World.cell?, heap_alloc_old w _ hlt], fun b cs T f q => ⟨cs, T, f, by rw [heap_alloc_old w _ (Array.getElem?_eq_some_iff.1 q).1]; exact q, rfl⟩⟩
  have hfresh : ow w.heap.size = none := by
    rcases hq : ow w.heap.size with _ | q
    · rfl
    · exact absurd (r.hr.lt _ (by rw [hq]; simp)) (Nat.lt_irrefl _)
  have hO : ∀ (P : Nat → List Nat → Prop) (Q : Nat → List Nat → Prop), (∀ g p, P g p → ow g ≠ none) → (∀ g p, P g p → g ≠ w.heap.size → Q g p) →
      ∀ g p, P g p → (w.alloc (.cells cs T)).heap[g]? = w.heap[g]? ∧ h g = h g ∧ Q g p := by
    intro P Q h1 h2 g p hp
    have hlt := r.hr.lt g (h1 g p hp)
    exact ⟨heap_alloc_old w _ hlt, rfl, h2 g p hp (Nat.ne_of_lt hlt)⟩
  have hρ : ∀ (i b : Nat), ρ[i]? = some b → (ρ ++ [w.heap.size])[i]? = some b := fun i b hi => by
    rw [List.getElem?_append_left (List.getElem?_eq_some_iff.1 hi).1]; exact hi
  have hfr : Fr w h ow (w.alloc (.cells cs T)) h (fun g => if g = w.heap.size then some (.box ρ.length) else ow g) :=
    ⟨hst, by simp, rfl, rfl, rfl, fun b hb ho => ⟨heap_alloc_old w _ hb, rfl, by rw [if_neg (Nat.ne_of_lt hb)]; exact ho⟩⟩
  refine ⟨r.glob.fr hfr, r.fr.trans hfr, ⟨?_, fun id bx b h1 h2 hne => ?_, fun g hg => ?_, fun b hb => r.hr.hz b (by simp at hb; omega)⟩, r.defers, by simpa [Act.put] using r.size, fun i => ?_, fun i hi => ?_, by obtain ⟨ex, hex⟩ := r.pre; exact ⟨ex ++ [w.heap.size], by rw [hex, List.append_assoc]⟩⟩
  · simp [r.hr.len, St.put]
  · simp only [St.put] at h1
    by_cases hid : id < s.hp.length
    · rw [List.getElem?_append_left hid] at h1
      rw [List.getElem?_append_left (by rw [← r.hr.len]; exact hid)] at h2
      obtain ⟨p, q, cs', T', hh, hl, hrr⟩ := r.hr.box id bx b h1 h2 hne
      have hblt := r.hr.lt b (by rw [p]; simp)
      refine ⟨by rw [if_neg (Nat.ne_of_lt hblt)]; exact p, q, cs', T', by rw [heap_alloc_old w _ hblt]; exact hh, hl, ?_⟩
      exact RepDs.step hst hρ bx _ _ 0 _ (hO _ _ (fun g p ho => by rw [ho]; simp) (fun g p ho hne => by rw [if_neg hne]; exact ho)) hrr
    · have hid' : id = s.hp.length := by
        have := (List.getElem?_eq_some_iff.1 h1).1
        simp at this; omega
      subst hid'
      simp only [List.getElem?_concat_length, Option.some.injEq] at h1
      subst h1
      rw [r.hr.len] at h2
      simp only [List.getElem?_concat_length, Option.some.injEq] at h2
      subst h2
      refine ⟨by simp [r.hr.len], r.hr.hz _ (Nat.le_refl _), cs, T, heap_alloc_new w _, by have := (hb (fun _ _ => False) 0).length; simp at this; omega, ?_⟩
      exact RepDs.step hst hρ box (fun _ _ => False) _ 0 _ (fun g p hf => hf.elim) (hb _ 0)
  · by_cases hgs : g = w.heap.size
    · subst hgs; simp
    · rw [if_neg hgs] at hg
      have := r.hr.lt g hg
      simp; omega
  · rw [getD_put a d _ i hd']
    simp only [St.put]
    by_cases hid : i = d
    · rw [if_pos hid, if_pos hid]
      simp only [RepD]
      exact ⟨w.heap.size, by rw [r.hr.len]; simp, rfl⟩
    · rw [if_neg hid, if_neg hid]
      exact RepD.step hst hρ _ _ _ _ (hO _ _ (fun g p ho => by rw [ho]; simp) (fun g p ho hne => by rw [if_neg hne]; exact ho)) (r.tm i)
  · simp only [St.put]
    rw [if_neg (fun e => by rw [e] at hi; exact absurd hi (Nat.not_le_of_gt hd))]
    exact r.dom i hi
end Go.Proofs.Dm
