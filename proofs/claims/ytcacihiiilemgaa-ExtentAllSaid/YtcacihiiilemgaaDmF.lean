/- The D-machine, part F: alloc, box, load, store. -/
import Derived.Test.YtcacihiiilemgaaDmE
set_option linter.unusedVariables false
set_option linter.unusedSimpArgs false
namespace Go.Proofs.Dm
open Go Go.RowKit

/-! ### Cells' types -/
def tcellsF (P : Program) : Nat → TypeId → List TypeId
  | 0, t => [t]
  | k + 1, t => match P.underlying t with
    | some (.struct fs) => fs.toList.flatMap fun f => tcellsF P k f.type
    | _ => [t]
def tcells (P : Program) (t : TypeId) : List TypeId := tcellsF P 6 t
def tzero (P : Program) (t : TypeId) : Option Value := (P.info? t).bind (·.zero)
theorem tzero_spec {P t z} (e : tzero P t = some z) (w : World) : (zeroValue t).run P w = .ok z w := by
  obtain ⟨i, h1, h2⟩ := Option.bind_eq_some_iff.1 e
  simp [zeroValue, typeInfo, program, Sem.run, h1, h2]
def coerCells (P : Program) : List TypeId → List DV → List DV
  | t :: ts, d :: ds => coerD P t d :: coerCells P ts ds
  | _, ds => ds
theorem coerCells_wk (P : Program) : ∀ (ts : List TypeId) (ds : List DV), Wks ds (coerCells P ts ds)
  | [], ds => by
    have : ∀ ds : List DV, Wks ds ds := fun ds => by
      induction ds with
      | nil => exact .nil
      | cons d ds ih => exact .cons (.refl d) ih
    simpa only [coerCells] using this ds
  | t :: ts, [] => by simp only [coerCells]; exact .nil
  | t :: ts, d :: ds => by simp only [coerCells]; exact .cons (coerD_wk P t d) (coerCells_wk P ts ds)
theorem coerCells_len (P : Program) : ∀ (ts : List TypeId) (ds : List DV), (coerCells P ts ds).length = ds.length
  | [], ds => by simp only [coerCells]
  | t :: ts, [] => by simp only [coerCells]
  | t :: ts, d :: ds => by simp only [coerCells, List.length_cons, coerCells_len P ts ds]

/-- A value's cells: of a struct its own, else itself. -/
def flat : DV → Option (List DV)
  | .agg cs => some cs
  | d => if solid d then some [d] else none
def isAggD : DV → Bool
  | .agg _ => true
  | _ => false
theorem flat_rep {w h ρ d O v cs} (e : flat d = some cs) (r : RepD w h ρ d O v) :
    ∃ O', RepDs w h ρ cs O' 0 v.cells.toList ∧ ∀ g k p, O' g (k :: p) → O g (if isAggD d then k :: p else p) := by
  cases d with
  | agg ds =>
    simp only [flat, Option.some.injEq] at e; subst e
    simp only [RepD] at r
    obtain ⟨vs, rfl, hr⟩ := r
    exact ⟨O, by simpa only [Value.cells] using hr, fun g k p h => by simpa [isAggD] using h⟩
  | _ =>
    simp only [flat] at e
    split at e
    · rename_i hs
      injection e with e; subst e
      have h1 := solid_one hs r
      have h2 : v.cells = #[v] := by cases v <;> first | rfl | (simp [Value.oneCell'] at h1)
      refine ⟨fun g q => O g (q.drop 1), ?_, fun g k p h => by simpa [isAggD] using h⟩
      rw [h2]
      simp only [RepDs]
      exact ⟨v, [], rfl, by simpa using r, rfl⟩
    · cases e

/-! ### alloc, box -/
def zeroCells (P : Program) (t : TypeId) : Option (List DV) :=
  match tzero P t with
  | some z => match constD z with
    | some d => (flat d).map (coerCells P (tcells P t))
    | none => none
  | none => none
def allocD (P : Program) (o : Oper) (t : TypeId) (s : St) : Option St :=
  match o.dst, zeroCells P t with
  | some d, some box => some { s.put (some d) (.ref s.hp.length 0) with hp := s.hp ++ [box] }
  | _, _ => none
theorem allocD_ok {C w0 h0 ow0 r0 n o t s s'} (hop : o.op = .alloc t) (hd : dstOk n o.dst = true) (e : allocD C.P o t s = some s') : StepOK C w0 h0 ow0 r0 n o s s' := by
  intro a w h ow ρ r K Q hK
  unfold allocD at e
  split at e
  · rename_i d box hdst hz
    injection e with e; subst e
    unfold zeroCells at hz
    split at hz
    · rename_i z hz1
      split at hz
      · rename_i dz hz2
        obtain ⟨cs, hf, hc⟩ := Option.map_eq_some_iff.1 hz
        subst hc
        have hrep : ∀ O, RepD w h ρ dz O z := fun O => constD_rep hz2
        have hrun : (execOp a.eval o).run C.P w = .ok (.value (.pointer (some ⟨w.heap.size, 0, none⟩))) (w.alloc (.cells z.cells t)) := by
          simp only [execOp, hop, Instr.alloc, Sem.run_bind, tzero_spec hz1, Result.andThen_ok, newVar, newRow, newObj, Sem.run, Sem.run_pure]
          rfl
        unfold Oper.wp
        rw [hrun]
        show K (a.put o.dst _) _
        rw [hdst]
        rw [hdst] at hd
        refine hK _ _ h (fun g => if g = w.heap.size then some (.box ρ.length) else ow g) (ρ ++ [w.heap.size]) ?_
        refine r.newBox d (by simpa [dstOk] using hd) (coerCells C.P (tcells C.P t) cs) z.cells t fun O k => RepDs.takeAll (RepDs.wk (coerCells_wk _ _ _) ?_)
        obtain ⟨O', hr, _⟩ := flat_rep hf (hrep (fun _ _ => False))
        rename_i hO'
        exact RepDs.step (Stable.refl w h) (fun _ _ h => h) cs (fun _ _ => False) O k _ (fun _ _ hf => hf.elim) (by
          obtain ⟨O2, hr2, hO2⟩ := flat_rep hf (hrep (fun _ _ => False))
          refine RepDs.of_get hr2.length fun i d v hd hv => ?_
          obtain ⟨v', h1, h2⟩ := hr2.get i d hd
          rw [h1] at hv; injection hv with hv; subst hv
          exact h2.rename fun g p hg => by simpa using hO2 g (0 + i) p hg)
      · cases hz
    · cases hz
  · cases e
def boxD (P : Program) (o : Oper) (t : TypeId) (x : Operand) (s : St) : Option St :=
  match o.dst, evalD s x with
  | some d, some v => match flat v with
    | some cs => some { s.put (some d) (.ref s.hp.length 0) with hp := s.hp ++ [coerCells P (tcells P t) (fzs cs)] }
    | none => none
  | _, _ => none
theorem boxD_ok {C w0 h0 ow0 r0 n o t x s s'} (hop : o.op = .box t x) (hd : dstOk n o.dst = true) (e : boxD C.P o t x s = some s') : StepOK C w0 h0 ow0 r0 n o s s' := by
  intro a w h ow ρ r K Q hK
  unfold boxD at e
  split at e
  · rename_i d v hdst hv
    split at e
    · rename_i cs hf
      injection e with e; subst e
      have hrun : (execOp a.eval o).run C.P w = .ok (.value (.pointer (some ⟨w.heap.size, 0, none⟩))) (w.alloc (.cells (a.eval x).cells t)) := by
        simp only [execOp, hop, Instr.box, Sem.run_bind, Result.andThen_ok, newVar, newRow, newObj, Sem.run, Sem.run_pure]
        rfl
      unfold Oper.wp
      rw [hrun]
      show K (a.put o.dst _) _
      rw [hdst]
      rw [hdst] at hd
      refine hK _ _ h (fun g => if g = w.heap.size then some (.box ρ.length) else ow g) (ρ ++ [w.heap.size]) ?_
      obtain ⟨O', hr, _⟩ := flat_rep hf (evalD_rep r hv)
      exact r.newBox d (by simpa [dstOk] using hd) _ (a.eval x).cells t fun O k => RepDs.takeAll (RepDs.wk (coerCells_wk _ _ _) (hr.fz_any O k))
    · cases e
  · cases e

/-! ### load -/
def deown : DV → DV := fun d => if hasOwn d then .un else d
/-- Loaded cells as a value. -/
def asVal (g : Bool) (cs : List DV) : Option DV :=
  if g then some (.agg cs) else match cs with
    | [c] => some c
    | _ => none
def loadD (P : Program) (tk : Bool) (o : Oper) (t : TypeId) (x : Operand) (s : St) : Option St :=
  match tsz P t, tagg P t with
  | some z, some g => match evalD s x with
    | some (.ref id off) => match s.hp[id]? with
      | some box => if off + z ≤ box.length ∧ box ≠ [] then
          (if tk && hasOwns ((box.drop off).take z) then
            (match o.dst, asVal g ((box.drop off).take z) with
             | some d, some v => some { s.put (some d) v with hp := s.hp.set id (box.take off ++ ((box.drop off).take z).map deown ++ box.drop (off + z)) }
             | _, _ => none)
           else (asVal g (fzs ((box.drop off).take z))).map (s.put o.dst)) else none
      | none => none
    | some (.fr cs) => if z ≤ cs.length then (asVal g ((cs.take z).map .p)).map (s.put o.dst) else none
    | _ => none
  | _, _ => none

theorem load_run {P : Program} {t z g} (hz : tsz P t = some z) (hg : tagg P t = some g) (b off : Nat) (w : World) (vs : List Value) (hl : vs.length = z)
    (hc : ∀ j v, vs[j]? = some v → w.cell? ⟨b, off + j, none⟩ = some v) (v : Value) (hv : (g = true ∧ v = .agg vs.toArray) ∨ (g = false ∧ vs = [v])) :
    (Instr.loadAt t (.pointer (some ⟨b, off, none⟩))).run P w = .ok v w := by
  rcases hv with ⟨rfl, rfl⟩ | ⟨rfl, rfl⟩
  · have := run_loadCells_list (P := P) w ⟨b, off, none⟩ vs (fun j v hj => by rw [addr_add]; exact hc j v hj)
    rw [hl] at this
    simp only [Instr.loadAt, Instr.sureAddr, loadVar, Sem.run_bind, Sem.run_pure, Result.andThen_ok, tagg_spec hg, if_true, tsz_spec hz, this]
  · have := hc 0 v (by simp)
    simp only [Nat.add_zero] at this
    simp only [Instr.loadAt, Instr.sureAddr, loadVar, Sem.run_bind, Sem.run_pure, Result.andThen_ok, tagg_spec hg, Bool.false_eq_true, if_false, load, Sem.run, this]

theorem asVal_rep {w h ρ g cs O vs d} (e : asVal g cs = some d) (r : RepDs w h ρ cs O 0 vs) (O' : Nat → List Nat → Prop)
    (hO : ∀ q k p, O q (k :: p) → O' q (if g then k :: p else p)) : ∃ v, ((g = true ∧ v = .agg vs.toArray) ∨ (g = false ∧ vs = [v])) ∧ RepD w h ρ d O' v := by
  unfold asVal at e
  split at e
  · rename_i hg
    subst hg
    injection e with e; subst e
    refine ⟨_, .inl ⟨rfl, rfl⟩, ?_⟩
    simp only [RepD]
    refine ⟨_, rfl, ?_⟩
    refine RepDs.of_get r.length fun i d v hd hv => ?_
    obtain ⟨v', h1, h2⟩ := r.get i d hd
    have hv' : vs[i]? = some v := hv
    rw [h1] at hv'; injection hv' with hv'; subst hv'
    exact h2.rename fun q p ho => by simpa using hO q _ p ho
  · rename_i hg
    split at e
    · rename_i c
      injection e with e; subst e
      simp only [RepDs] at r
      obtain ⟨v, rest, rfl, h1, rfl⟩ := r
      exact ⟨v, .inr ⟨by simpa using hg, rfl⟩, h1.rename fun q p ho => by simpa [hg] using hO q _ p ho⟩
    · cases e

def mvLoad (id off z d : Nat) (g : Bool) : Pos → Pos
  | .cell (i :: k :: p) => if i = id ∧ off ≤ k ∧ k < off + z then .tmp (d :: (if g then (k - off) :: p else p)) else .cell (i :: k :: p)
  | x => x

theorem RepDs.append {w h ρ} : ∀ {ds es : List DV} {O k vs us}, RepDs w h ρ ds O k vs → RepDs w h ρ es O (k + ds.length) us → RepDs w h ρ (ds ++ es) O k (vs ++ us)
  | [], es, O, k, vs, us, r, q => by simp only [RepDs] at r; subst r; simpa using q
  | d :: ds, es, O, k, vs, us, r, q => by
    simp only [RepDs, List.cons_append] at r ⊢
    obtain ⟨v, rest, rfl, h1, h2⟩ := r
    refine ⟨v, rest ++ us, rfl, h1, RepDs.append h2 ?_⟩
    have e : k + (d :: ds).length = k + 1 + ds.length := by simp; omega
    rw [e] at q; exact q

theorem repDs_part {w h ρ ds O vs} (r : RepDs w h ρ ds O 0 vs) (i j : Nat) : RepDs w h ρ ((ds.drop i).take j) O i ((vs.drop i).take j) := by
  refine RepDs.of_get (by simp [r.length]) fun k d v hd hv => ?_
  rw [List.getElem?_take] at hd hv
  split at hd
  · rename_i hk
    rw [if_pos hk] at hv
    rw [List.getElem?_drop] at hd hv
    obtain ⟨v', h1, h2⟩ := r.get _ d hd
    rw [h1] at hv; injection hv with hv; subst hv
    exact h2.rename fun g p ho => by simpa using ho
  · cases hd

/-- Owners' names and boxes turn, the world stays. -/
theorem Rel.names' {C w0 h0 ow0 r0 n s a w h ow ρ} (r : Rel C w0 h0 ow0 r0 n s a w h ow ρ) (ow' : Own) (s' : St) (a' : Act)
    (hnone : ∀ g, ow g = none → ow' g = none) (hHR : HR w h ρ ow' s'.hp)
    (hdef : a'.defers = []) (hsize : a'.tmps.size = n) (hdom : ∀ i, n ≤ i → s'.tm i = .un)
    (htm : ∀ i, RepD w h ρ (s'.tm i) (fun g p => ow' g = some (.tmp (i :: p))) (a'.tmps.getD i undef)) :
    Rel C w0 h0 ow0 r0 n s' a' w h ow' ρ := by
  refine ⟨⟨r.glob.nb, fun b hb => ⟨(r.glob.eq b hb).1, hnone b (r.glob.eq b hb).2⟩⟩, ⟨r.fr.st, r.fr.size, r.fr.os, r.fr.tape, r.fr.output, fun b hb ho => ?_⟩, hHR, hdef, hsize, htm, hdom, r.pre⟩
  obtain ⟨p, q, t⟩ := r.fr.keep b hb ho
  exact ⟨p, q, hnone b t⟩
theorem splice_get {α : Type} (f : α → α) (l : List α) (off z : Nat) (hl : off + z ≤ l.length) (i : Nat) :
    (l.take off ++ ((l.drop off).take z).map f ++ l.drop (off + z))[i]? = if off ≤ i ∧ i < off + z then (l[i]?).map f else l[i]? := by
  by_cases h1 : i < off
  · rw [if_neg (by omega), List.append_assoc, List.getElem?_append_left (by simp; omega), List.getElem?_take, if_pos h1]
  · by_cases h2 : i < off + z
    · rw [if_pos ⟨by omega, h2⟩, List.getElem?_append_left (by simp; omega), List.getElem?_append_right (by simp; omega), List.getElem?_map, List.getElem?_take, List.getElem?_drop]
      have e1 : (l.take off).length = off := by simp; omega
      rw [e1, if_pos (by omega)]
      congr 2; omega
    · rw [if_neg (by omega), List.getElem?_append_right (by simp; omega), List.getElem?_drop]
      congr 1
      simp; omega

theorem loadD_ok {C w0 h0 ow0 r0 n tk o t x s s'} (hop : o.op = .load t x) (hd : dstOk n o.dst = true) (e : loadD C.P tk o t x s = some s') : StepOK C w0 h0 ow0 r0 n o s s' := by
  intro a w h ow ρ r K Q hK
  unfold loadD at e
  split at e
  · rename_i z g hz hg
    split at e
    · rename_i id off hx
      split at e
      · rename_i box hb
        split at e
        · rename_i hoff
          have hx' := evalD_rep r hx
          simp only [RepD] at hx'
          obtain ⟨b, hρ, hv⟩ := hx'
          obtain ⟨hoff, hne⟩ := hoff
          obtain ⟨p1, p2, cs, T, hh, hl0, hrr⟩ := r.hr.box id box b hb hρ hne
          have hlen := hrr.length
          have hdt : ((cs.toList.take box.length).drop off).take z = (cs.toList.drop off).take z := by
            rw [List.drop_take, List.take_take]; congr 1; omega
          have hcell : ∀ j u, ((cs.toList.drop off).take z)[j]? = some u → w.cell? ⟨b, off + j, none⟩ = some u := by
            intro j u hj
            rw [List.getElem?_take] at hj
            split at hj
            · rw [List.getElem?_drop, Array.getElem?_toList] at hj
              simp [World.cell?, hh, hj]
            · cases hj
          have hl : ((cs.toList.drop off).take z).length = z := by simp at hlen ⊢; omega
          have hsub := repDs_part hrr off z
          rw [hdt] at hsub
          have hrun : ∀ v, ((g = true ∧ v = .agg ((cs.toList.drop off).take z).toArray) ∨ (g = false ∧ (cs.toList.drop off).take z = [v])) → (execOp a.eval o).run C.P w = .ok (.value v) w := by
            intro v hvv
            simp only [execOp, hop, hv, Sem.run_bind, load_run hz hg b off w _ hl hcell v hvv, Result.andThen_ok, Sem.run_pure]
          split at e
          · split at e
            · rename_i htk d v hdst hav
              injection e with e; subst e
              have hO2 : RepDs w h ρ ((box.drop off).take z) (fun q p => match p with | k :: p' => k < z ∧ ow q = some (.cell (id :: (off + k) :: p')) | [] => False) 0 ((cs.toList.drop off).take z) := by
                refine RepDs.of_get hsub.length fun i d v hd hv => ?_
                obtain ⟨v', h1, h2⟩ := hsub.get i d hd
                rw [h1] at hv; injection hv with hv; subst hv
                have hi : i < z := by
                  have := (List.getElem?_eq_some_iff.1 h1).1
                  rw [hl] at this; exact this
                exact h2.rename fun g p ho => by simpa using ⟨hi, ho⟩
              obtain ⟨u, hu1, hu2⟩ := asVal_rep hav hO2 (fun q p => (ow q).map (mvLoad id off z d g) = some (.tmp (d :: p)))
                (fun q k p ho => by
                  obtain ⟨hk, ho⟩ := ho
                  simp only [ho, Option.map_some, mvLoad]
                  rw [if_pos ⟨trivial, by omega, by omega⟩]
                  simp)
              unfold Oper.wp
              rw [hrun u hu1]
              show K (a.put o.dst u) w
              rw [hdst] at hd ⊢
              simp only [dstOk, decide_eq_true_eq] at hd
              have hd' : d < a.tmps.size := by rw [r.size]; exact hd
              refine hK _ _ _ (fun g' => (ow g').map (mvLoad id off z d g)) ρ (r.names' _ _ _ (fun g hg => by simp [hg]) ?_ r.defers (by simpa [Act.put] using r.size) (fun i hi => ?_) (fun i => ?_))
              · refine ⟨by simp [r.hr.len], fun i bx b' h1 h2 hne' => ?_, fun g' hg' => r.hr.lt g' (fun e => hg' (by simp [e])), r.hr.hz⟩
                simp only [] at h1
                by_cases hi : i = id
                · subst hi
                  rw [hρ] at h2; injection h2 with h2; subst h2
                  have hlt : i < s.hp.length := (List.getElem?_eq_some_iff.1 hb).1
                  rw [List.getElem?_set_self hlt] at h1
                  injection h1 with h1; subst h1
                  have hbl : (box.take off ++ ((box.drop off).take z).map deown ++ box.drop (off + z)).length = box.length := by simp; omega
                  refine ⟨by simp [p1, mvLoad], p2, cs, T, hh, by rw [hbl]; exact hl0, RepDs.of_get (by rw [hbl]; exact hlen) fun k d1 v hd1 hv1 => ?_⟩
                  rw [hbl] at hv1
                  rw [splice_get deown box off z hoff k] at hd1
                  · split at hd1
                    · obtain ⟨d0, hd0, hd00⟩ := Option.map_eq_some_iff.1 hd1
                      subst hd00
                      obtain ⟨v', q1, q2⟩ := hrr.get k d0 hd0
                      rw [q1] at hv1; injection hv1 with hv1; subst hv1
                      unfold deown
                      split
                      · simp only [RepD]
                      · rename_i hno
                        exact RepD.free _ _ _ _ (by simpa using hno) q2
                    · rename_i hk
                      obtain ⟨v', q1, q2⟩ := hrr.get k d1 hd1
                      rw [q1] at hv1; injection hv1 with hv1; subst hv1
                      refine q2.rename fun g' p ho => ?_
                      simp only [Nat.zero_add] at ho ⊢
                      simp only [ho, Option.map_some, mvLoad]
                      rw [if_neg (fun q => hk ⟨q.2.1, q.2.2⟩)]
                · rw [List.getElem?_set_ne (fun e => hi e.symm)] at h1
                  obtain ⟨p1', p2', cs', T', hh', hl', hrr'⟩ := r.hr.box i bx b' h1 h2 hne'
                  refine ⟨by simp [p1', mvLoad], p2', cs', T', hh', hl', RepDs.of_get hrr'.length fun k d1 v hd1 hv1 => ?_⟩
                  obtain ⟨v', q1, q2⟩ := hrr'.get k d1 hd1
                  rw [q1] at hv1; injection hv1 with hv1; subst hv1
                  refine q2.rename fun g' p ho => ?_
                  simp only [ho, Option.map_some, mvLoad]
                  rw [if_neg (fun q => hi q.1)]
              · simp only [St.put]
                rw [if_neg (fun e => by rw [e] at hi; exact absurd hi (Nat.not_le_of_gt hd))]
                exact r.dom i hi
              · rw [getD_put a d _ i hd']
                simp only [St.put]
                by_cases hid : i = d
                · rw [if_pos hid, if_pos hid, hid]; exact hu2
                · rw [if_neg hid, if_neg hid]
                  exact (r.tm i).rename fun g p ho => by simp [ho, mvLoad]
            · cases e
          · obtain ⟨d, h1, h2⟩ := Option.map_eq_some_iff.1 e
            subst h2
            have hany : ∀ O, ∃ v, ((g = true ∧ v = .agg ((cs.toList.drop off).take z).toArray) ∨ (g = false ∧ (cs.toList.drop off).take z = [v])) ∧ RepD w h ρ d O v := fun O =>
              asVal_rep h1 (hsub.fz_any (fun _ _ => False) 0) O (fun _ _ _ hf => hf.elim)
            obtain ⟨v, hvv, _⟩ := hany (fun _ _ => False)
            unfold Oper.wp
            rw [hrun v hvv]
            refine hK _ _ _ _ _ (r.put o.dst hd fun O => ?_)
            obtain ⟨v', hvv', hr⟩ := hany O
            have : v' = v := by
              rcases hvv with ⟨q1, q2⟩ | ⟨q1, q2⟩ <;> rcases hvv' with ⟨q3, q4⟩ | ⟨q3, q4⟩ <;> simp_all
            rw [← this]; exact hr
        · cases e
      · cases e
    · rename_i cs hx
      split at e
      · rename_i hzl
        obtain ⟨d, h1, h2⟩ := Option.map_eq_some_iff.1 e
        subst h2
        have hx' := evalD_rep r hx
        simp only [RepD] at hx'
        obtain ⟨gb, off, hv, hh, hrow⟩ := hx'
        have hget : ∀ j, j < z → ∃ u, w.cell? ⟨gb, off + j, none⟩ = some u ∧ ∀ c, cs[j]? = some c → Rep w h c u := by
          intro j hj
          obtain ⟨u, q1, q2⟩ := hrow.get j cs[j] (List.getElem?_eq_getElem (by omega))
          exact ⟨u, q1, fun c hc => by rw [List.getElem?_eq_getElem (by omega)] at hc; injection hc with hc; subst hc; exact q2⟩
        have hex : ∃ vs : List Value, vs.length = z ∧ ∀ j u, vs[j]? = some u → w.cell? ⟨gb, off + j, none⟩ = some u ∧ ∀ c, cs[j]? = some c → Rep w h c u := by
          refine ⟨(List.range z).map fun j => (w.cell? ⟨gb, off + j, none⟩).getD undef, by simp, fun j u hj => ?_⟩
          rw [List.getElem?_map] at hj
          obtain ⟨i, hi1, hi2⟩ := Option.map_eq_some_iff.1 hj
          have hjz : j < z := by
            have := (List.getElem?_eq_some_iff.1 hi1).1
            simpa using this
          rw [List.getElem?_range hjz] at hi1
          injection hi1 with hi1; subst hi1
          obtain ⟨u', q1, q2⟩ := hget j hjz
          rw [q1] at hi2
          simp only [Option.getD_some] at hi2
          subst hi2
          exact ⟨q1, q2⟩
        obtain ⟨vs, hvl, hvs⟩ := hex
        have hrep : ∀ O, RepDs w h ρ ((cs.take z).map .p) O 0 vs := fun O => by
          refine RepDs.of_get (by simp [hvl]; omega) fun i d v hd hv => ?_
          rw [List.getElem?_map, List.getElem?_take] at hd
          split at hd
          · obtain ⟨c, hc1, hc2⟩ := Option.map_eq_some_iff.1 hd
            subst hc2
            simp only [RepD]
            exact (hvs i v hv).2 c hc1
          · simp at hd
        have hany : ∀ O, ∃ v, ((g = true ∧ v = .agg vs.toArray) ∨ (g = false ∧ vs = [v])) ∧ RepD w h ρ d O v := fun O =>
          asVal_rep h1 (hrep (fun _ _ => False)) O (fun _ _ _ hf => hf.elim)
        obtain ⟨v, hvv, _⟩ := hany (fun _ _ => False)
        unfold Oper.wp
        have hrun : (execOp a.eval o).run C.P w = .ok (.value v) w := by
          simp only [execOp, hop, hv, Sem.run_bind, load_run hz hg gb off w vs hvl (fun j u hj => (hvs j u hj).1) v hvv, Result.andThen_ok, Sem.run_pure]
        rw [hrun]
        refine hK _ _ _ _ _ (r.put o.dst hd fun O => ?_)
        obtain ⟨v', hvv', hr⟩ := hany O
        have : v' = v := by
          rcases hvv with ⟨q1, q2⟩ | ⟨q1, q2⟩ <;> rcases hvv' with ⟨q3, q4⟩ | ⟨q3, q4⟩ <;> simp_all
        rw [← this]; exact hr
      · cases e
    · cases e
  · cases e
end Go.Proofs.Dm
