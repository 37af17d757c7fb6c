/- The D-machine, part G: store, build, buildSlice. -/
import Derived.Test.YtcacihiiilemgaaDmF
set_option linter.unusedVariables false
set_option linter.unusedSimpArgs false
namespace Go.Proofs.Dm
open Go Go.RowKit

def solids : List DV → Bool
  | [] => true
  | d :: ds => solid d && solids ds
theorem solids_get : ∀ {ds : List DV}, solids ds = true → ∀ (i : Nat) (d : DV), ds[i]? = some d → solid d = true
  | [], _, i, d, h => by simp at h
  | d' :: ds, hs, 0, d, h => by simp only [solids, Bool.and_eq_true] at hs; simp at h; subst h; exact hs.1
  | d' :: ds, hs, i + 1, d, h => by simp only [solids, Bool.and_eq_true] at hs; exact solids_get hs.2 i d (by simpa using h)

def mvStore (t id off : Nat) (agg : Bool) : Pos → Pos
  | .tmp (i :: q) => if i = t then .cell (id :: (if agg then (match q with | k :: p => (off + k) :: p | [] => [off]) else off :: q)) else .tmp (i :: q)
  | x => x
def storeD (P : Program) (o : Oper) (t : TypeId) (x y : Operand) (s : St) : Option St :=
  match o.dst, tsz P t with
  | none, some z => match evalD s x, evalD s y with
    | some (.ref id off), some v => match flat v, s.hp[id]? with
      | some cs, some box => if cs.length = z ∧ off + z ≤ box.length ∧ solids cs = true ∧ box ≠ [] then
          (if hasOwn v then (match y with
            | .tmp ty => some { s.put (some ty) .un with hp := s.hp.set id (box.take off ++ coerCells P (tcells P t) cs ++ box.drop (off + z)) }
            | _ => none) else some { s with hp := s.hp.set id (box.take off ++ coerCells P (tcells P t) cs ++ box.drop (off + z)) }) else none
      | _, _ => none
    | _, _ => none
  | _, _ => none

theorem splice3_get {α : Type} (l m : List α) (off z : Nat) (hm : m.length = z) (hl : off + z ≤ l.length) (i : Nat) :
    (l.take off ++ m ++ l.drop (off + z))[i]? = if off ≤ i ∧ i < off + z then m[i - off]? else l[i]? := by
  by_cases h1 : i < off
  · rw [if_neg (by omega), List.append_assoc, List.getElem?_append_left (by simp; omega), List.getElem?_take, if_pos h1]
  · by_cases h2 : i < off + z
    · rw [if_pos ⟨by omega, h2⟩, List.getElem?_append_left (by simp; omega), List.getElem?_append_right (by simp; omega)]
      congr 1
      simp; omega
    · rw [if_neg (by omega), List.getElem?_append_right (by simp; omega), List.getElem?_drop]
      congr 1
      simp; omega

/-- A store into a box: whatever positions the new cells' owners have. -/
theorem Rel.stored {C w0 h0 ow0 r0 n s a w h ow ρ} (r : Rel C w0 h0 ow0 r0 n s a w h ow ρ) {id off z b : Nat} {box ds : List DV} {vs : List Value} {cs : Array Value} {T : TypeId}
    (hb : s.hp[id]? = some box) (hρ : ρ[id]? = some b) (hh : w.heap[b]? = some (.cells cs T (0, 0))) (hz : ds.length = z) (hoff : off + z ≤ box.length) (hne : box ≠ [])
    (f : Pos → Pos) (hbox : ∀ i, f (.box i) = .box i) (hcell : ∀ p, f (.cell p) = .cell p)
    (hds : RepDs w h ρ ds (fun g q => match q with | k :: p => (ow g).map f = some (.cell (id :: (off + k) :: p)) | [] => False) 0 vs)
    (s' : St) (hs' : s'.hp = s.hp.set id (box.take off ++ ds ++ box.drop (off + z))) (hdom : ∀ i, n ≤ i → s'.tm i = .un)
    (htm : ∀ i, s'.tm i = .un ∨ (s'.tm i = s.tm i ∧ ∀ p, f (.tmp (i :: p)) = .tmp (i :: p))) :
    Rel C w0 h0 ow0 r0 n s' a (w.setRow b (cs.toList.take off ++ vs ++ cs.toList.drop (off + z)).toArray) h (fun g => (ow g).map f) ρ := by
  obtain ⟨p1, p2, cs0, T0, hh0, hbl, hrr⟩ := r.hr.box id box b hb hρ hne
  rw [hh] at hh0
  obtain ⟨rfl, rfl⟩ : cs = cs0 ∧ T = T0 := by injection hh0 with hh0; injection hh0 with q1 q2; exact ⟨q1, q2⟩
  have hlen := hrr.length
  have hvl := hds.length
  have hst : Stable w h (w.setRow b (cs.toList.take off ++ vs ++ cs.toList.drop (off + z)).toArray) h := ⟨fun _ => Nat.le_refl _, fun b' i hi => by
    have hne : b' ≠ b := by
      intro e; subst e; rw [p2] at hi; omega
    simp only [World.cell?, setRow_other w b b' _ hne], fun b' cs' T' f' q => by
    by_cases hbb : b' = b
    · subst hbb
      rw [hh] at q; injection q with q; injection q with q1 q2 q3; subst q1
      exact ⟨_, T, _, setRow_heap w b' cs _ T _ hh, by simp; omega⟩
    · exact ⟨cs', T', f', by rw [setRow_other w b b' _ hbb]; exact q, rfl⟩⟩
  have hO : ∀ (P : Nat → List Nat → Prop) (Q : Nat → List Nat → Prop), (∀ g p, P g p → ow g ≠ some (.box id)) → (∀ g p, P g p → Q g p) →
      ∀ g p, P g p → (w.setRow b (cs.toList.take off ++ vs ++ cs.toList.drop (off + z)).toArray).heap[g]? = w.heap[g]? ∧ h g = h g ∧ Q g p := by
    intro P Q h1 h2 g p hp
    have hne : g ≠ b := fun e => h1 g p hp (by rw [e]; exact p1)
    exact ⟨setRow_other w b g _ hne, rfl, h2 g p hp⟩
  have hsz : (w.setRow b (cs.toList.take off ++ vs ++ cs.toList.drop (off + z)).toArray).heap.size = w.heap.size := by simp [World.setRow]
  have hfr : Fr w h ow (w.setRow b (cs.toList.take off ++ vs ++ cs.toList.drop (off + z)).toArray) h (fun g => (ow g).map f) :=
    ⟨hst, by rw [hsz]; exact Nat.le_refl _, rfl, rfl, rfl, fun b' hb' ho => ⟨setRow_other w b b' _ (fun e => by rw [e, p1] at ho; cases ho), rfl, by simp [ho]⟩⟩
  refine ⟨r.glob.fr hfr, r.fr.trans hfr, ⟨by rw [hs']; simp [r.hr.len], fun i bx b' h1 h2 hne' => ?_, fun g hg => ?_, fun b' hb' => r.hr.hz b' (by rw [hsz] at hb'; exact hb')⟩, r.defers, r.size, fun i => ?_, hdom, r.pre⟩
  · rw [hs'] at h1
    by_cases hi : i = id
    · subst hi
      rw [hρ] at h2; injection h2 with h2; subst h2
      have hlt : i < s.hp.length := (List.getElem?_eq_some_iff.1 hb).1
      rw [List.getElem?_set_self hlt] at h1
      injection h1 with h1; subst h1
      have hnl : (box.take off ++ ds ++ box.drop (off + z)).length = box.length := by simp; omega
      refine ⟨by simp [p1, hbox], p2, _, T, setRow_heap w b cs _ T _ hh, by rw [hnl]; simp; omega, RepDs.of_get (by rw [hnl]; simp; omega) fun k d1 v hd1 hv1 => ?_⟩
      · have hkl : k < box.length := by rw [← hnl]; exact (List.getElem?_eq_some_iff.1 hd1).1
        have hv1 : ((cs.toList.take off ++ vs ++ cs.toList.drop (off + z)).take (box.take off ++ ds ++ box.drop (off + z)).length)[k]? = some v := hv1
        rw [List.getElem?_take, hnl, if_pos hkl] at hv1
        rw [splice3_get box ds off z hz hoff k] at hd1
        rw [splice3_get cs.toList vs off z (by omega) (by simp; omega) k] at hv1
        split at hd1
        · rename_i hk
          rw [if_pos hk] at hv1
          obtain ⟨v', q1, q2⟩ := hds.get _ d1 hd1
          rw [q1] at hv1; injection hv1 with hv1; subst hv1
          refine RepD.step hst (fun _ _ h => h) d1 _ _ _ (hO _ _ (fun g p ho e => ?_) (fun g p ho => ?_)) q2
          · simp only [Nat.zero_add] at ho
            rw [e] at ho; simp [hbox] at ho
          · simp only [Nat.zero_add] at ho ⊢
            rw [ho]
            have : off + (k - off) = k := by omega
            rw [this]
        · rename_i hk
          rw [if_neg hk] at hv1
          obtain ⟨v', q1, q2⟩ := hrr.get k d1 hd1
          rw [List.getElem?_take, if_pos hkl] at q1
          rw [q1] at hv1; injection hv1 with hv1; subst hv1
          exact RepD.step hst (fun _ _ h => h) d1 _ _ _ (hO _ _ (fun g p ho e => by rw [e] at ho; simp at ho) (fun g p ho => by simp [ho, hcell])) q2
    · rw [List.getElem?_set_ne (fun e => hi e.symm)] at h1
      obtain ⟨p1', p2', cs', T', hh', hl', hrr'⟩ := r.hr.box i bx b' h1 h2 hne'
      have hne : b' ≠ b := fun e => by rw [e, p1] at p1'; injection p1' with p1'; injection p1' with p1'; exact hi p1'.symm
      refine ⟨by simp [p1', hbox], p2', cs', T', by rw [setRow_other w b b' _ hne]; exact hh', hl', ?_⟩
      exact RepDs.step hst (fun _ _ h => h) bx _ _ 0 _ (hO _ _ (fun g p ho e => by rw [e] at ho; simp at ho) (fun g p ho => by simp [ho, hcell])) hrr'
  · rw [hsz]
    exact r.hr.lt g (fun e => hg (by simp [e]))
  · rcases htm i with e | ⟨e, q⟩
    · rw [e]; simp only [RepD]
    · rw [e]
      exact RepD.step hst (fun _ _ h => h) _ _ _ _ (hO _ _ (fun g p ho e => by rw [e] at ho; simp at ho) (fun g p ho => by simp [ho, q])) (r.tm i)

theorem storeD_ok {C w0 h0 ow0 r0 n o t x y s s'} (hop : o.op = .store t x y) (e : storeD C.P o t x y s = some s') : StepOK C w0 h0 ow0 r0 n o s s' := by
  intro a w h ow ρ r K Q hK
  unfold storeD at e
  split at e
  · rename_i z hdst hz
    split at e
    · rename_i id off v hx hy
      split at e
      · rename_i cs box hf hb
        split at e
        · rename_i hc
          obtain ⟨hcl, hoff, hsol, hne⟩ := hc
          have hx' := evalD_rep r hx
          simp only [RepD] at hx'
          obtain ⟨b, hρ, hv⟩ := hx'
          obtain ⟨p1, p2, cs0, T, hh, hbl, hrr⟩ := r.hr.box id box b hb hρ hne
          obtain ⟨O', hr, hO'⟩ := flat_rep hf (evalD_rep r hy)
          have hlen := hrr.length
          have hvl := hr.length
          have hone : ∀ u ∈ (a.eval y).cells.toList, u.oneCell' = true := by
            intro u hu
            obtain ⟨i, hi⟩ := List.mem_iff_getElem?.1 hu
            have : i < cs.length := by rw [← hvl]; exact (List.getElem?_eq_some_iff.1 hi).1
            obtain ⟨v', q1, q2⟩ := hr.get i cs[i] (List.getElem?_eq_getElem this)
            rw [q1] at hi; injection hi with hi; subst hi
            exact solid_one (solids_get hsol i _ (List.getElem?_eq_getElem this)) q2
          have hst := run_storeCells_at C.P b off T (a.eval y).cells.toList 0 cs0 w hh (by simp at hlen hvl ⊢; omega) hone
          have hrun : (execOp a.eval o).run C.P w = .ok .skip (w.setRow b (cs0.toList.take off ++ (a.eval y).cells.toList ++ cs0.toList.drop (off + z)).toArray) := by
            have hsz : (a.eval y).cells.size = z := by simp at hvl; omega
            simp only [execOp, hop, hv, Instr.storeAt, Instr.sureAddr, storeVar, Sem.run_bind, Sem.run_pure, Result.andThen_ok, tsz_spec hz, hsz]
            simp only [ne_eq, not_true_eq_false, if_false, Sem.run_bind, Sem.run_pure, Result.andThen_ok]
            have : (a.eval y).cells.toList.length = z := by omega
            simp only [Nat.add_zero, this] at hst
            rw [hst]
            rfl
          unfold Oper.wp
          rw [hrun]
          show K (a.put o.dst undef) _
          rw [hdst]
          split at e
          · rename_i hown
            split at e
            · rename_i ty
              injection e with e; subst e
              refine hK a _ h _ ρ (r.stored (z := z) hb hρ hh (by rw [coerCells_len]; exact hcl) hoff hne (mvStore ty id off (isAggD v)) (fun i => rfl) (fun p => rfl)
                (RepDs.wk (coerCells_wk _ _ _) (RepDs.of_get hvl fun i d u hd hu => ?_)) _ rfl (fun i hi => ?_) (fun i => ?_))
              · obtain ⟨v', q1, q2⟩ := hr.get i d hd
                rw [q1] at hu; injection hu with hu; subst hu
                refine q2.rename fun g p ho => ?_
                have ho2 : ow g = some (.tmp (ty :: (if isAggD v then (0 + i) :: p else p))) := hO' g (0 + i) p ho
                simp only [Nat.zero_add] at ho2 ⊢
                rw [ho2]
                simp only [Option.map_some, mvStore, if_true]
                by_cases hag : isAggD v = true
                · simp [hag]
                · simp only [hag, Bool.false_eq_true, if_false]
                  have : i = 0 := by
                    have hi := (List.getElem?_eq_some_iff.1 hd).1
                    have : cs.length = 1 := by
                      cases v <;> simp [isAggD] at hag <;> simp only [flat] at hf <;> split at hf <;> first
                        | (injection hf with hf; subst hf; rfl)
                        | cases hf
                    omega
                  subst this
                  simp
              · simp only [St.put]
                split
                · rfl
                · exact r.dom i hi
              · simp only [St.put]
                by_cases hit : i = ty
                · rw [if_pos hit]; exact .inl rfl
                · rw [if_neg hit]; exact .inr ⟨rfl, fun p => by simp [mvStore, hit]⟩
            · cases e
          · rename_i hown
            injection e with e; subst e
            have hmap : (fun g => (ow g).map (fun x => x)) = ow := by funext g; cases ow g <;> rfl
            have := r.stored (z := z) (ds := coerCells C.P (tcells C.P t) cs) hb hρ hh (by rw [coerCells_len]; exact hcl) hoff hne (fun x => x) (fun i => rfl) (fun p => rfl)
                (vs := (a.eval y).cells.toList) (RepDs.wk (coerCells_wk _ _ _) ?_) { s with hp := s.hp.set id (box.take off ++ coerCells C.P (tcells C.P t) cs ++ box.drop (off + z)) } rfl r.dom
                (fun i => .inr ⟨rfl, fun p => rfl⟩)
            · exact hK a _ h _ ρ this
            · obtain ⟨O2, hr2, _⟩ := flat_rep hf (RepD.free _ _ (fun _ _ => False) _ (by simpa using hown) (evalD_rep r hy))
              refine RepDs.of_get hr2.length fun i d u hd hu => ?_
              obtain ⟨v', q1, q2⟩ := hr2.get i d hd
              rw [q1] at hu; injection hu with hu; subst hu
              obtain ⟨O3, hr3, hO3⟩ := flat_rep hf (RepD.free _ _ (fun _ _ => False) _ (by simpa using hown) (evalD_rep r hy))
              obtain ⟨v3, q3, q4⟩ := hr3.get i d hd
              rw [q1] at q3; injection q3 with q3; subst q3
              exact q4.rename fun g p ho => (hO3 g (0 + i) p ho).elim
        · cases e
      · cases e
    · cases e
  · cases e
end Go.Proofs.Dm
