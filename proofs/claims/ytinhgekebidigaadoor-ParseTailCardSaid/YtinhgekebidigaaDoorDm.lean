/- The D-machine, part Law: from a contract to what a law's statement asks. -/
import Derived.Test.YtinhgekebidigaaDoorDl
import Derived.ChangeStays
import Derived.ChangeSame
import Derived.ProofKit
import Derived.OpenShut
set_option linter.unusedVariables false
namespace Go.Proofs.Dm
open Go Go.RowKit Go.ChangeShapes Go.WideShapes

/-- Whatever lies in memory is never written. -/
def allMark (W : World) (b : Nat) : Nat := match W.heap[b]? with
  | some (.cells cs _ _) => cs.size
  | _ => 0
/-- The old memory is as it was. -/
structure Held (W W' : World) : Prop where
  size : W.heap.size ≤ W'.heap.size
  os : W'.os = W.os
  output : W'.output = W.output
  block : ∀ b, b < W.heap.size → W'.heap[b]? = W.heap[b]?
theorem Held.kept {W W' : World} (h : Held W W') (may : MemPlace → Prop) : W.keptBut W' may := by
  refine ⟨h.os, h.output, fun i hi => ?_⟩
  rw [h.block i hi]
  split
  · rename_i c t fr c' t' fr' e1 e2
    rw [e1] at e2; injection e2 with e2; injection e2 with q1 q2 q3
    subst q1; subst q2; subst q3
    exact ⟨rfl, rfl, rfl, fun _ _ => rfl⟩
  · rename_i es cl es' cl' e1 e2
    rw [e1] at e2; injection e2 with e2; injection e2 with q1 q2
    subst q1; subst q2
    exact .inr ⟨rfl, rfl⟩
  · rfl
theorem Held.frozen {W W' : World} (h : Held W W') (a : Addr) (ha : a.block < W.heap.size) : W'.frozen? a = W.frozen? a := by
  simp only [World.frozen?, h.block a.block ha]
theorem Held.same {W W' : World} (h : Held W W') (p : MemPlace) (hp : p.block < W.heap.size) : W.sameAt W' p := by
  cases p with
  | cell b off => simp only [World.sameAt, World.cell?]; rw [h.block b hp]
  | map b => simp only [World.sameAt]; exact h.block b hp

theorem dcalls_law {P : Program} {W : World} {f : FuncId} {args : List DV} {b : Bool} {bs' : List (List DV)} (d : DCalls ⟨P, W, W.heap.size⟩ f args [] (.p (.bool b)) bs') {vs : List Value}
    (ha : RepDs W (allMark W) [] args (fun _ _ => False) 0 vs) : Calls P f vs.toArray W fun e w' => e = .returned (.bool b) ∧ Held W w' := by
  have hHR : HR W (allMark W) [] (fun _ => none) [] := ⟨rfl, fun id box b h => by simp at h, fun g hg => absurd rfl hg, fun b hb => by
    unfold allMark
    rw [Array.getElem?_eq_none hb]⟩
  have := d.2 W (allMark W) (fun _ => none) [] vs (RepDs.rename ha (fun g p h => h.elim)) hHR ⟨Nat.le_refl _, fun b hb => ⟨rfl, rfl⟩⟩
  refine this.mono fun e w' ⟨v, h', ow', ex, h1, h2, h3, h4⟩ => ⟨by simp only [RepD, Rep] at h4; rw [h1, h4], h2.size, h2.os, h2.output, fun b hb => (h2.keep b hb rfl).1⟩

section
variable {H : Type} {enc : TypeId × Value → H} {P : Program}
theorem trodAll_held {T : TypeId → Prop} {W W' : World} {sp : Nat → Bool} (K : Kids P T) (hsz : ∀ {t e : TypeId}, T t → P.underlying t = some (.slice e) → 0 < P.cellsOf e) (hh : Held W W') :
    ∀ {ts : List TypeId} {vs : List Value} {ds : List (DataW H)} {ps : List MemPlace}, (∀ t ∈ ts, T t) → DataW.TrodAll enc P W 0 (fun _ => true) true ts vs ds ps → (∀ p ∈ ps, sp p.block = true) → DataW.TrodAll enc P W' 0 sp true ts vs ds ps
  | [], _, _, _, _, h, hs => by
    obtain ⟨rfl, rfl, rfl⟩ := trodAll_nil h
    rfl
  | t :: ts, _, _, _, ht, h, hs => by
    obtain ⟨v, vs1, d, ds1, a, b, rfl, rfl, rfl, ⟨fuel, h1⟩, h2⟩ := trodAll_cons h
    have hlt := DataW.trod_lt _ _ _ _ h1
    refine ⟨a, b, ⟨fuel, ?_⟩, trodAll_held K hsz hh (fun u hu => ht u (by simp [hu])) h2 (fun p hp => hs p (by simp [hp])), rfl⟩
    exact DataW.trod_stays K hsz (fun q => by cases q) (ht t (by simp)) h1 (fun p hp => hh.same p (hlt p hp)) (fun p hp => hs p (by simp [hp]))

theorem post_of_held {f : Func} {s : ChangeSpec} {apart fresh handsOn again : Bool} {W W' : World} {args : Array Value} {v : Value} {ds gs : List (DataW H)} {before pa pv : List MemPlace}
    (hW : DataW.Whole enc P f.params.toList s.vars apart W args.toList ds gs before)
    (hres : ∀ (b : Nat) (sp : Nat → Bool) (hd : Bool), DataW.TrodAll enc P W' b sp hd f.resultTypes.toList (v.resultList f.resultTypes.size) (s.fn H (ds ++ gs)).results [])
    (hargs : ∀ sp : Nat → Bool, (∀ p ∈ before, sp p.block = true) → DataW.TrodAll enc P W' 0 sp true f.params.toList args.toList (s.fn H (ds ++ gs)).args pa)
    (hvars : ∀ sp : Nat → Bool, (∀ p ∈ before, sp p.block = true) → DataW.TrodVars enc P W' sp s.vars (s.fn H (ds ++ gs)).vars pv)
    (hps : before = pa ++ pv) (hh : Held W W')
    (hok : ∀ (j : Nat) (t : TypeId) (r : Value), f.resultTypes[j]? = some t → (v.resultList f.resultTypes.size)[j]? = some r → Value.okWide P W' .any 0 t r) :
    s.post enc P f apart fresh handsOn again W args v W' := by
  have hlt := fun p hp => hW.lt p hp
  have hold : ∀ p ∈ before, (fun b => decide (b < W.heap.size)) p.block = true := fun p hp => by simpa using hlt p hp
  refine ⟨ds, gs, before, [], pa, pv, hW, hres _ _ _, hargs _ hold, hvars _ hold, World.keptBut_mono (fun p hp => ⟨hp, ?_⟩) (hh.kept (· ∈ before)), fun _ => ?_⟩
  · rw [hps, List.mem_append] at hp
    exact Or.inr hp
  · obtain ⟨_, _, _, _, _, hz, hn⟩ := hW
    refine ⟨hok, _, _, ([] ++ pa) ++ pv, ⟨[] ++ pa, pv, trodAll_append (hargs _ (fun _ _ => rfl)) (hres _ _ _), hvars _ (fun _ _ => rfl), rfl, ?_, ?_⟩, ?_⟩
    · intro b off hp
      have hp' : MemPlace.cell b off ∈ before := by rw [hps]; simpa using hp
      rw [hh.frozen _ (hlt _ hp')]
      exact hz b off hp'
    · intro ha
      have := hn ha
      rw [hps] at this
      simpa using this
    · intro p hp _
      rw [hps]
      simpa using hp
end
end Go.Proofs.Dm
