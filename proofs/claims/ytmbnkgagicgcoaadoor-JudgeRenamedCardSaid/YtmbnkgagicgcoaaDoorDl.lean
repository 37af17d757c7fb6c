/- Part of the proof: contracts of the functions, walked by the D-machine. No condition. -/
import Derived.Test.YtmbnkgagicgcoaaDoorDj
set_option linter.unusedVariables false
set_option linter.unusedSimpArgs false
namespace Go.Proofs.Dm
open Go Go.RowKit

theorem dcalls_foreign {C : Ctx} {f : FuncId} {args : List DV} {vs : List Value} {r : DV} {v : Value}
    (hf : ∃ fn, C.P.funcs[f]? = some fn ∧ (fn.name == "runtime.NumGoroutine") = false ∧ fn.body.isNone = false)
    (ha : ∀ (w : World) h ρ O ws, RepDs w h ρ args O 0 ws → ws = vs)
    (hr : ∀ (w : World) h ρ O, RepD w h ρ r O v)
    (hc : ∀ w : World, C.nb ≤ w.heap.size → (∀ b, b < C.nb → w.heap[b]? = C.W0.heap[b]?) → Calls C.P f vs.toArray w fun e w' => e = .returned v ∧ Below w.heap.size w w') :
    DCalls C f args [] r [] := by
  refine ⟨hf, fun w h ow ρ ws hargs hHR hg => ?_⟩
  obtain rfl := ha _ _ _ _ _ hargs
  refine (hc w hg.nb fun b hb => (hg.eq b hb).1).mono fun e w' ⟨h1, h2⟩ => ?_
  have hlt : ∀ {b : Nat} {o : Obj}, w.heap[b]? = some o → b < w.heap.size := fun {b o} q => by
    rcases Nat.lt_or_ge b w.heap.size with h | h
    · exact h
    · rw [Array.getElem?_eq_none h] at q; cases q
  have hst : Stable w h w' h := ⟨fun _ => Nat.le_refl _, fun b i hi => by
      have hb : b < w.heap.size := by
        rcases Nat.lt_or_ge b w.heap.size with q | q
        · exact q
        · rw [hHR.hz b q] at hi; omega
      simp only [World.cell?, h2.block b hb], fun b cs T fz q => ⟨cs, T, fz, by rw [h2.block b (hlt q)]; exact q, rfl⟩⟩
  refine ⟨v, h, ow, [], h1, ⟨hst, h2.size, h2.os, h2.tape, h2.output, fun b hb ho => ⟨h2.block b hb, rfl, ho⟩⟩, ?_, hr _ _ _ _⟩
  refine ⟨by simpa using hHR.len, fun id box b q1 q2 => by simp at q1, fun g hg => Nat.lt_of_lt_of_le (hHR.lt g hg) h2.size, fun b hb => hHR.hz b (Nat.le_trans h2.size hb)⟩
end Go.Proofs.Dm

set_option linter.unusedVariables false
set_option linter.unusedSimpArgs false
namespace Go.Proofs.Dm
open Go Go.RowKit

theorem dcalls_foreign2 {C : Ctx} {f : FuncId} {args : List DV} {r : DV} (A : List Value → Prop) (V : Value → Prop)
    (hf : ∃ fn, C.P.funcs[f]? = some fn ∧ (fn.name == "runtime.NumGoroutine") = false ∧ fn.body.isNone = false)
    (ha : ∀ (w : World) h ρ O ws, RepDs w h ρ args O 0 ws → A ws)
    (hr : ∀ (w : World) h ρ O v, V v → RepD w h ρ r O v)
    (hc : ∀ (ws : List Value), A ws → ∀ w : World, C.nb ≤ w.heap.size → (∀ b, b < C.nb → w.heap[b]? = C.W0.heap[b]?) → Calls C.P f ws.toArray w fun e w' => ∃ v, e = .returned v ∧ V v ∧ Below w.heap.size w w') :
    DCalls C f args [] r [] := by
  refine ⟨hf, fun w h ow ρ ws hargs hHR hg => ?_⟩
  have hA := ha _ _ _ _ _ hargs
  refine (hc ws hA w hg.nb fun b hb => (hg.eq b hb).1).mono fun e w' ⟨v, h1, hv, h2⟩ => ?_
  have hlt : ∀ {b : Nat} {o : Obj}, w.heap[b]? = some o → b < w.heap.size := fun {b o} q => by
    rcases Nat.lt_or_ge b w.heap.size with h | h
    · exact h
    · rw [Array.getElem?_eq_none h] at q; cases q
  have hst : Stable w h w' h := ⟨fun _ => Nat.le_refl _, fun b i hi => by
      have hb : b < w.heap.size := by
        rcases Nat.lt_or_ge b w.heap.size with q | q
        · exact q
        · rw [hHR.hz b q] at hi; omega
      simp only [World.cell?, h2.block b hb], fun b cs T fz q => ⟨cs, T, fz, by rw [h2.block b (hlt q)]; exact q, rfl⟩⟩
  refine ⟨v, h, ow, [], h1, ⟨hst, h2.size, h2.os, h2.tape, h2.output, fun b hb ho => ⟨h2.block b hb, rfl, ho⟩⟩, ?_, hr _ _ _ _ _ hv⟩
  refine ⟨by simpa using hHR.len, fun id box b q1 q2 => by simp at q1, fun g hg => Nat.lt_of_lt_of_le (hHR.lt g hg) h2.size, fun b hb => hHR.hz b (Nat.le_trans h2.size hb)⟩
end Go.Proofs.Dm

set_option linter.unusedVariables false
set_option linter.unusedSimpArgs false
namespace Go.Proofs.Dm
open Go Go.RowKit

theorem Wks.len : ∀ {a b : List DV}, Wks a b → a.length = b.length
  | _, _, .nil => rfl
  | _, _, .cons _ ks => by simp [ks.len]
theorem Gh.weakBox {k0 : Nat} {s : St} (id : Nat) (b b' : List DV) (h1 : s.hp[id]? = some b) (hw : Wks b b') : Gh k0 s ⟨s.tm, s.hp.set id b'⟩ := fun C w0 h0 ow0 r0 n a w h ow ρ _ r => by
  refine ⟨h, ow, ρ, ⟨r.glob, r.fr, ?_, r.defers, r.size, r.tm, r.dom, r.pre⟩⟩
  refine ⟨by simpa using r.hr.len, fun i box bl q1 q2 hne => ?_, r.hr.lt, r.hr.hz⟩
  by_cases hi : i = id
  · subst hi
    have hlt : i < s.hp.length := (List.getElem?_eq_some_iff.1 h1).1
    simp only [List.getElem?_set_self hlt, Option.some.injEq] at q1
    subst q1
    have hl := hw.len
    obtain ⟨p1, p2, cs, T, p3, p4, p5⟩ := r.hr.box i b bl h1 q2 (by rintro rfl; simp at hl; exact hne (List.eq_nil_of_length_eq_zero hl.symm))
    refine ⟨p1, p2, cs, T, p3, by omega, ?_⟩
    rw [← hl]
    exact RepDs.wk hw p5
  · simp only [List.getElem?_set_ne (fun h => hi h.symm)] at q1
    exact r.hr.box i box bl q1 q2 hne
/-- A call's argument boxes may be weakened ahead of it. -/
theorem Wks.refl' : ∀ (ds : List DV), Wks ds ds := Wks.same
/-- Of a box only the beginning is told. -/
theorem Gh.cutBox {k0 : Nat} {s : St} (id m : Nat) (b : List DV) (h1 : s.hp[id]? = some b) : Gh k0 s ⟨s.tm, s.hp.set id (b.take m)⟩ := fun C w0 h0 ow0 r0 n a w h ow ρ _ r => by
  refine ⟨h, ow, ρ, ⟨r.glob, r.fr, ?_, r.defers, r.size, r.tm, r.dom, r.pre⟩⟩
  refine ⟨by simpa using r.hr.len, fun i box bl q1 q2 hne => ?_, r.hr.lt, r.hr.hz⟩
  by_cases hi : i = id
  · subst hi
    have hlt : i < s.hp.length := (List.getElem?_eq_some_iff.1 h1).1
    simp only [List.getElem?_set_self hlt, Option.some.injEq] at q1
    subst q1
    obtain ⟨p1, p2, cs, T, p3, p4, p5⟩ := r.hr.box i b bl h1 q2 (by rintro rfl; simp at hne)
    refine ⟨p1, p2, cs, T, p3, by simp; omega, ?_⟩
    have hlen := p5.length
    refine RepDs.of_get (by simp at hlen ⊢; omega) fun j d v hd hv => ?_
    rw [List.getElem?_take] at hd
    rw [List.getElem?_take] at hv
    have hj : j < m := by
      split at hd
      · assumption
      · cases hd
    rw [if_pos hj] at hd
    have hjl : j < b.length := (List.getElem?_eq_some_iff.1 hd).1
    have hj2 : j < (b.take m).length := by simp; omega
    rw [if_pos hj2] at hv
    obtain ⟨v', g1, g2⟩ := p5.get j d hd
    rw [List.getElem?_take, if_pos hjl, hv] at g1
    cases g1
    exact g2
  · simp only [List.getElem?_set_ne (fun h => hi h.symm)] at q1
    exact r.hr.box i box bl q1 q2 hne
/-- An array of no element is a slice of none. -/
theorem Gh.arrNil {k0 : Nat} {s : St} (t : Tmp) (id off z : Nat) (h1 : s.tm t = .arr id off z 0) : Gh k0 s (s.put (some t) (.p (.sl z []))) := fun C w0 h0 ow0 r0 n a w h ow ρ _ r => by
  refine ⟨h, ow, ρ, ⟨r.glob, r.fr, r.hr, r.defers, r.size, fun i => ?_, fun i hi => ?_, r.pre⟩⟩
  · simp only [St.put]
    split
    · rename_i e; subst e
      have hr := r.tm i
      rw [h1] at hr
      simp only [RepD, Rep] at hr ⊢
      obtain ⟨b, hb, ⟨_, a, c, q1, q2⟩ | ⟨cap, cs, T, f, q1, q2, q3, q4⟩⟩ := hr
      · exact .inl ⟨trivial, a, c, q1, q2⟩
      · exact .inl ⟨trivial, _, cap, q2, fun q => by cases q⟩
    · exact r.tm i
  · simp only [St.put]
    split
    · rename_i e; subst e
      have := r.dom i hi
      rw [h1] at this; cases this
    · exact r.dom i hi
/-- Several ways meet. -/
theorem join {J K : St → Prop} {P : Prop} (main : (∀ st, J st → K st) → P) (key : ∀ st, J st → K st) : P := main key
end Go.Proofs.Dm
