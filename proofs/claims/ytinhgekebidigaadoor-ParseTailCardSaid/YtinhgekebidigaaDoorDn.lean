/- The D-machine, part For: a contract that another road has proved, taken over. -/
import Derived.Test.YtinhgekebidigaaDoorDl
set_option linter.unusedVariables false
set_option linter.unusedSimpArgs false
namespace Go.Proofs.Dm
open Go Go.RowKit

theorem dcalls_foreign {C : Ctx} {f : FuncId} {args : List DV} {vs : List Value} {r : DV} {v : Value}
    (hf : ∃ fn, C.P.funcs[f]? = some fn ∧ (fn.name == "runtime.NumGoroutine") = false ∧ fn.body.isNone = false)
    (ha : ∀ (w : World) h ρ O ws, RepDs w h ρ args O 0 ws → ws = vs)
    (hr : ∀ (w : World) h ρ O, RepD w h ρ r O v)
    (hc : ∀ w : World, C.nb ≤ w.heap.size → (∀ b, b < C.nb → w.heap[b]? = C.W0.heap[b]?) → Calls C.P f vs.toArray w fun e w' => e = .returned v ∧ Below w.heap.size w w') :
    DCalls C f args [] r [] := by
  refine ⟨hf, fun w h ow ρ ws hargs hHR hg => ?_⟩
  obtain rfl := ha _ _ _ _ _ hargs
  refine (hc w hg.nb fun b hb => (hg.eq b hb).1).mono fun e w' ⟨h1, h2⟩ => ?_
  have hlt : ∀ {b : Nat} {o : Obj}, w.heap[b]? = some o → b < w.heap.size := fun {b o} q => by
    rcases Nat.lt_or_ge b w.heap.size with h | h
    · exact h
    · rw [Array.getElem?_eq_none h] at q; cases q
  have hst : Stable w h w' h := ⟨fun _ => Nat.le_refl _, fun b i hi => by
      have hb : b < w.heap.size := by
        rcases Nat.lt_or_ge b w.heap.size with q | q
        · exact q
        · rw [hHR.hz b q] at hi; omega
      simp only [World.cell?, h2.block b hb], fun b cs T fz q => ⟨cs, T, fz, by rw [h2.block b (hlt q)]; exact q, rfl⟩⟩
  refine ⟨v, h, ow, [], h1, ⟨hst, h2.size, h2.os, h2.tape, h2.output, fun b hb ho => ⟨h2.block b hb, rfl, ho⟩⟩, ?_, hr _ _ _ _⟩
  refine ⟨by simpa using hHR.len, fun id box b q1 q2 => by simp at q1, fun g hg => Nat.lt_of_lt_of_le (hHR.lt g hg) h2.size, fun b hb => hHR.hz b (Nat.le_trans h2.size hb)⟩
end Go.Proofs.Dm
