/- Part of the proof: contracts of the functions, walked by the D-machine. No condition. -/
import Derived.Test.YtmbnkgagicgcoaaDoorDd
set_option linter.unusedVariables false
set_option linter.unusedSimpArgs false
namespace Go.Proofs.Dm
open Go Go.RowKit

theorem buildSliceD_ok {C w0 h0 ow0 r0 n o t len} {parts : Array (Nat × Operand)} {s s'} (hop : o.op = .buildSlice t len parts) (hd : dstOk n o.dst = true) (e : buildSliceD C.P o t len parts.toList s = some s') :
    StepOK C w0 h0 ow0 r0 n o s s' := by
  intro a w h ow ρ r K Q hK
  unfold buildSliceD at e
  split at e
  · rename_i el d hts hdst
    split at e
    · rename_i z zv hz hzv
      split at e
      · rename_i rows hrows
        split at e
        · rename_i hc
          obtain ⟨hl, h24, h0z, hzz⟩ := hc
          injection e with e; subst e
          let cells0 : Array Value := (Array.range (len * z)).map (((if len * z = 0 then #[] else zv.cells) : Array Value)[· % ((if len * z = 0 then #[] else zv.cells) : Array Value).size]!)
          obtain ⟨vals, q1, q2, q3, q4, q5⟩ := rows_fill r parts.toList 0 rows cells0 hrows (by simp [cells0, hl])
          simp only [Nat.zero_mul, List.take_zero, List.nil_append] at q1
          have hparts : (parts.map fun (i, x) => (i, a.eval x)).toList = parts.toList.map fun p => (p.1, a.eval p.2) := by
            rw [Array.toList_map]
          have hrun : (execOp a.eval o).run C.P w = .ok (.value (.slice (some ⟨w.heap.size, 0, none⟩) len len)) (w.alloc (.cells vals.toArray el)) := by
            have h24' : ¬ (len * z > 2 ^ 24) := by omega
            simp only [execOp, hop, Instr.buildSlice, Sem.run_bind, run_underlying (tslice_spec hts), Result.andThen_ok, tsz_spec hz, if_neg h24', Sem.run_pure]
            by_cases hzero : len * z = 0
            · simp only [if_pos hzero, pure_bind, Sem.run_bind, Sem.run_pure, Result.andThen_ok]
              rw [hparts]
              simp only [cells0, if_pos hzero] at q1
              rw [q1]
              simp only [Sem.run_bind, newRow, newObj, Sem.run, Sem.run_pure, Result.andThen_ok]
              rfl
            · simp only [if_neg hzero, Sem.run_bind, Sem.run_pure, tzero_spec hzv, Result.andThen_ok]
              rw [hparts]
              simp only [cells0, if_neg hzero] at q1
              rw [q1]
              simp only [Sem.run_bind, newRow, newObj, Sem.run, Sem.run_pure, Result.andThen_ok]
              rfl
          unfold Oper.wp
          rw [hrun]
          show K (a.put o.dst _) _
          rw [hdst] at hd ⊢
          have hown : (w.alloc (.cells vals.toArray el)).ownsRow 0 el z (.slice (some ⟨w.heap.size, 0, none⟩) len len) rows.length vals := by
            refine ⟨by rw [q2], .inr ⟨w.heap.size, len, vals.toArray, by rw [hl], by omega, heap_alloc_new w _, by omega, ?_, by simp [q2, hl], ?_⟩⟩
            · simp only [maxLen]
              have : len * 1 ≤ len * z := Nat.mul_le_mul_left _ h0z
              omega
            · rw [List.take_of_length_le (by simp [q2])]
          have hgrow : w.grownBy (w.alloc (.cells vals.toArray el)) (Value.slice none 0 0).ownBlock := ⟨rfl, rfl, rfl, by simp, fun k hk _ => heap_alloc_old w _ hk⟩
          have hstab : ∀ b i, i < h b → (w.alloc (.cells vals.toArray el)).cell? ⟨b, i, none⟩ = w.cell? ⟨b, i, none⟩ := by
            intro b i hi
            have hlt : b < w.heap.size := by
              rcases Nat.lt_or_ge b w.heap.size with q | q
              · exact q
              · rw [r.hr.hz b q] at hi; omega
            simp only [World.cell?, heap_alloc_old w _ hlt]
          have := r.appended none d (by simpa [dstOk] using hd) (v := .slice none 0 0) (fun g hg => by simp [Value.ownBlock] at hg) hgrow hstab (fun b cs T f q => ⟨cs, T, f, by rw [heap_alloc_old w _ (Array.getElem?_eq_some_iff.1 q).1]; exact q, rfl⟩) h0z hown q3 q4 q5 (.inr (.inr rfl))
            (fun g hg => by
              have : w.heap.size = g := by simpa [Value.ownBlock] using hg
              rw [r.hr.hz g (by omega)]; exact Nat.zero_le _)
          refine hK _ _ _ _ _ (this.weak (s.put (some d) (ownD el z rows)) rfl (fun i => ?_) (fun i hi => ?_))
          · simp only [St.put]
            split
            · exact ownD_wk _ _ _
            · exact .refl _
          · have hdn : d < n := by simpa [dstOk] using hd
            simp only [St.put]
            rw [if_neg (fun e : i = d => absurd (e ▸ hi) (Nat.not_le_of_gt hdn))]
            exact r.dom i hi
        · cases e
      · cases e
    · cases e
  · cases e

/-! ### build -/
def tplacesL (P : Program) : List Field → Option (List (Nat × Nat))
  | [] => some []
  | f :: fs => match tsz P f.type, tplacesL P fs with
    | some z, some r => some ((f.offset, z) :: r)
    | _, _ => none
def tplaces (P : Program) (t : TypeId) : Option (List (Nat × Nat)) := match P.underlying t with
  | some (.struct fs) => tplacesL P fs.toList
  | _ => none
theorem tplacesL_run {P : Program} : ∀ {fs : List Field} {r : List (Nat × Nat)}, tplacesL P fs = some r → ∀ w, (fs.mapM fun f => (do pure (f.offset, ← sizeOf f.type) : Sem (Nat × Nat))).run P w = .ok r w
  | [], r, e, w => by simp only [tplacesL, Option.some.injEq] at e; subst e; simp
  | f :: fs, r, e, w => by
    simp only [tplacesL] at e
    split at e
    · rename_i z q h1 h2
      injection e with e; subst e
      have ih := tplacesL_run h2 w
      simp only [List.mapM_cons, Sem.run_bind, Sem.run_pure, tsz_spec h1, Result.andThen_ok]
      rw [ih]
      rfl
    · cases e

/-- Parts put into their places; at most one of them (a slice of the call's own) keeps its owner. -/
def fillD (s : St) (pl : List (Nat × Nat)) : List (Nat × Operand) → List DV → Option (Tmp × Nat) → Option (List DV × Option (Tmp × Nat))
  | [], cells, w => some (cells, w)
  | (i, x) :: rest, cells, w => match pl[i]?, evalD s x with
    | some (off, z), some v => if hasOwn v then (match x, w, v with
        | .tmp t, none, .own e zz xs => if z = 1 ∧ off < cells.length then fillD s pl rest (cells.take off ++ [.own e zz xs] ++ cells.drop (off + 1)) (some (t, off)) else none
        | _, _, _ => none)
      else (match flat v with
        | some cs => if cs.length = z ∧ off + z ≤ cells.length then fillD s pl rest (cells.take off ++ cs ++ cells.drop (off + z)) w else none
        | none => none)
    | _, _ => none
def buildD (P : Program) (o : Oper) (t : TypeId) (parts : List (Nat × Operand)) (s : St) : Option St :=
  match o.dst, tplaces P t, zeroCellsT P t with
  | some d, some pl, some z => match fillD s pl parts z none with
    | some (cells, none) => some (s.put (some d) (.agg (coerT P t cells)))
    | some (cells, some (ts, _)) => some ((s.put (some ts) .un).put (some d) (.agg (coerT P t cells)))
    | none => none
  | _, _, _ => none

def bOwn (ow : Own) (k : Option (Tmp × Nat)) : Nat → List Nat → Prop := fun g p => ∃ t off, k = some (t, off) ∧ p = [off] ∧ ow g = some (.tmp [t])

theorem fill_splice {P : Program} {place : Nat → Option (Nat × Nat)} {i off z : Nat} (hp : place i = some (off, z)) {v : Value} (hv : v.cells.size = z) {cells : Array Value} (hl : off + z ≤ cells.size) (rest : List (Nat × Value)) :
    Instr.fill place cells ((i, v) :: rest) = Instr.fill place (cells.toList.take off ++ v.cells.toList ++ cells.toList.drop (off + z)).toArray rest := by
  have hfold := foldl_cells v off cells (by rw [hv]; exact hl)
  simp only [Instr.fill, hp]
  rw [if_neg (by simp [hv]; omega)]
  congr 1
  rw [← hv, ← hfold, Array.toArray_toList]

theorem flat_any {w h ρ d O v cs} (e : flat d = some cs) (hn : hasOwn d = false) (r : RepD w h ρ d O v) (O' : Nat → List Nat → Prop) (k : Nat) : RepDs w h ρ cs O' k v.cells.toList := by
  obtain ⟨O2, hr, hO2⟩ := flat_rep e (RepD.free _ _ (fun _ _ => False) _ hn r)
  refine RepDs.of_get hr.length fun i d v hd hv => ?_
  obtain ⟨v', q1, q2⟩ := hr.get i d hd
  rw [q1] at hv; injection hv with hv; subst hv
  exact q2.rename fun g p ho => (hO2 g (0 + i) p ho).elim

theorem fillD_ok {C w0 h0 ow0 r0 n s a w h ow ρ} (r : Rel C w0 h0 ow0 r0 n s a w h ow ρ) {pl : List (Nat × Nat)} : ∀ (parts : List (Nat × Operand)) (cells : List DV) (k : Option (Tmp × Nat)) (res : List DV) (k' : Option (Tmp × Nat)) (vs : Array Value),
    fillD s pl parts cells k = some (res, k') → RepDs w h ρ cells (bOwn ow k) 0 vs.toList →
    ∃ us : Array Value, Instr.fill (pl[·]?) vs (parts.map fun p => (p.1, a.eval p.2)) = some us ∧ RepDs w h ρ res (bOwn ow k') 0 us.toList ∧ (k = none ∨ k = k')
  | [], cells, k, res, k', vs, e, hr => by
    simp only [fillD, Option.some.injEq, Prod.mk.injEq] at e
    obtain ⟨rfl, rfl⟩ := e
    exact ⟨vs, rfl, hr, .inr rfl⟩
  | (i, x) :: rest, cells, k, res, k', vs, e, hr => by
    have hlen := hr.length
    simp only [fillD] at e
    split at e
    · rename_i off z v hpl hv
      have hv' := evalD_rep r hv
      split at e
      · split at e
        · rename_i t e2 zz xs _
          split at e
          · rename_i hc
            obtain ⟨rfl, hoff⟩ := hc
            have h1 : (a.eval (.tmp t)).cells.size = 1 := by
              have := solid_one (d := .own e2 zz xs) rfl hv'
              cases hval : a.eval (.tmp t) <;> first | rfl | (rw [hval] at this; simp [Value.oneCell'] at this)
            have h2 : (a.eval (.tmp t)).cells.toList = [a.eval (.tmp t)] := by
              have := solid_one (d := .own e2 zz xs) rfl hv'
              cases hval : a.eval (.tmp t) <;> first | rfl | (rw [hval] at this; simp [Value.oneCell'] at this)
            have hsz : vs.size = cells.length := by simpa using hlen
            have hfs := fill_splice (P := C.P) (place := (pl[·]?)) hpl h1 (cells := vs) (by omega) (rest.map fun p => (p.1, a.eval p.2))
            obtain ⟨us, q1, q2, q3⟩ := fillD_ok r rest _ _ res k' (vs.toList.take off ++ (a.eval (.tmp t)).cells.toList ++ vs.toList.drop (off + 1)).toArray e (by
              refine RepDs.of_get (by simp [h2]; omega) fun j d u hd hu => ?_
              rw [splice3_get cells [.own e2 zz xs] off 1 rfl (by omega) j] at hd
              have hu : (vs.toList.take off ++ (a.eval (.tmp t)).cells.toList ++ vs.toList.drop (off + 1))[j]? = some u := hu
              rw [splice3_get vs.toList _ off 1 (by simpa using h1) (by simp; omega) j] at hu
              split at hd
              · rename_i hj
                rw [if_pos hj] at hu
                have : j = off := by omega
                subst this
                simp only [Nat.sub_self, List.getElem?_cons_zero, Option.some.injEq] at hd
                subst hd
                rw [h2] at hu
                simp only [Nat.sub_self, List.getElem?_cons_zero, Option.some.injEq] at hu
                subst hu
                simp only [RepD] at hv' ⊢
                obtain ⟨vals, k1, k2, k3, k4, k5, k6⟩ := hv'
                exact ⟨vals, k1, k2, k3, k4, k5, fun g hg => ⟨(k6 g hg).1, ⟨t, j, rfl, by simp, (k6 g hg).2⟩⟩⟩
              · rename_i hj
                rw [if_neg hj] at hu
                obtain ⟨u', p1, p2⟩ := hr.get j d hd
                rw [p1] at hu; injection hu with hu; subst hu
                exact p2.rename fun g p ho => by obtain ⟨_, _, q, _⟩ := ho; cases q)
            exact ⟨us, by simp only [List.map_cons]; rw [hfs]; exact q1, q2, .inl rfl⟩
          · cases e
        · cases e
      · rename_i hn
        have hn : hasOwn v = false := by simpa using hn
        split at e
        · rename_i cs hf
          split at e
          · rename_i hc
            obtain ⟨hcl, hoff⟩ := hc
            have hrep := flat_any hf hn hv' (bOwn ow k) off
            have hsz : vs.size = cells.length := by simpa using hlen
            have hvsz : (a.eval x).cells.size = z := by have := hrep.length; simp at this; omega
            have hfs := fill_splice (P := C.P) (place := (pl[·]?)) hpl hvsz (cells := vs) (by omega) (rest.map fun p => (p.1, a.eval p.2))
            obtain ⟨us, q1, q2, q3⟩ := fillD_ok r rest _ _ res k' (vs.toList.take off ++ (a.eval x).cells.toList ++ vs.toList.drop (off + z)).toArray e (by
              refine RepDs.of_get (by simp [hvsz]; omega) fun j d u hd hu => ?_
              rw [splice3_get cells cs off z hcl hoff j] at hd
              have hu : (vs.toList.take off ++ (a.eval x).cells.toList ++ vs.toList.drop (off + z))[j]? = some u := hu
              rw [splice3_get vs.toList _ off z (by simpa using hvsz) (by simp; omega) j] at hu
              split at hd
              · rename_i hj
                rw [if_pos hj] at hu
                obtain ⟨u', p1, p2⟩ := hrep.get _ d hd
                rw [p1] at hu; injection hu with hu; subst hu
                have e3 : off + (j - off) = 0 + j := by omega
                rw [e3] at p2
                exact p2
              · rename_i hj
                rw [if_neg hj] at hu
                obtain ⟨u', p1, p2⟩ := hr.get j d hd
                rw [p1] at hu; injection hu with hu; subst hu
                exact p2)
            exact ⟨us, by simp only [List.map_cons]; rw [hfs]; exact q1, q2, q3⟩
          · cases e
        · cases e
    · cases e

def mvBuild (t d off : Nat) : Pos → Pos
  | .tmp [i] => if i = t then .tmp [d, off] else .tmp [i]
  | x => x
theorem buildD_ok {C w0 h0 ow0 r0 n o t} {parts : Array (Nat × Operand)} {s s'} (hop : o.op = .build t parts) (hd : dstOk n o.dst = true) (e : buildD C.P o t parts.toList s = some s') : StepOK C w0 h0 ow0 r0 n o s s' := by
  intro a w h ow ρ r K Q hK
  unfold buildD at e
  split at e
  · rename_i d pl zc hdst hpl hzc
    obtain ⟨zv, hzv, hzr⟩ := zeroCellsT_rep hzc
    have hst : ∃ fs, C.P.underlying t = some (.struct fs) ∧ tplacesL C.P fs.toList = some pl := by
      unfold tplaces at hpl
      split at hpl
      · rename_i fs h1; exact ⟨fs, h1, hpl⟩
      · cases hpl
    obtain ⟨fs, hu, hplL⟩ := hst
    have hplaces : (fs.mapM fun f => (do pure (f.offset, ← sizeOf f.type) : Sem (Nat × Nat))).run C.P w = .ok pl.toArray w := by
      have e1 : (fs.mapM fun f => (do pure (f.offset, ← sizeOf f.type) : Sem (Nat × Nat))) = List.toArray <$> fs.toList.mapM fun f => (do pure (f.offset, ← sizeOf f.type) : Sem (Nat × Nat)) := by
        rw [Array.mapM_eq_mapM_toList]
      rw [e1, Sem.run_map, tplacesL_run hplL w, Result.andThen_ok]
    have hget : (fun i : Nat => pl.toArray[i]?) = (fun i : Nat => pl[i]?) := by funext i; simp
    have hparts : (parts.map fun (i, x) => (i, a.eval x)).toList = parts.toList.map fun p => (p.1, a.eval p.2) := by rw [Array.toList_map]
    have run : ∀ us, Instr.fill (pl[·]?) zv.cells (parts.toList.map fun p => (p.1, a.eval p.2)) = some us → (execOp a.eval o).run C.P w = .ok (.value (.agg us)) w := by
      intro us q
      simp only [execOp, hop, Instr.build, Sem.run_bind, tzero_spec hzv, Result.andThen_ok, run_underlying hu, hplaces]
      rw [hparts, hget, q]
      simp only [Sem.run_pure, Result.andThen_ok]
    split at e
    · rename_i cells hfill
      injection e with e; subst e
      obtain ⟨us, q1, q2, q3⟩ := fillD_ok r parts.toList zc none cells none zv.cells hfill (hzr _)
      unfold Oper.wp
      rw [run us q1]
      refine hK _ _ _ _ _ (r.put _ (by rw [← hdst]; exact hd) fun O => ?_) |> fun x => by rw [← hdst] at x; exact x
      simp only [RepD]
      exact ⟨us, rfl, RepDs.wk (coerT_wk _ _ _) (q2.rename fun g p ho => by obtain ⟨_, _, q, _⟩ := ho; cases q)⟩
    · rename_i cells ts off hfill
      injection e with e; subst e
      obtain ⟨us, q1, q2, q3⟩ := fillD_ok r parts.toList zc none cells _ zv.cells hfill (hzr _)
      unfold Oper.wp
      rw [run us q1]
      show K (a.put o.dst (.agg us)) w
      rw [hdst] at hd ⊢
      simp only [dstOk, decide_eq_true_eq] at hd
      have hd' : d < a.tmps.size := by rw [r.size]; exact hd
      refine hK _ _ h (fun g => (ow g).map (mvBuild ts d off)) ρ ?_
      have hcell : ∀ g p, ow g = some (.cell p) → (ow g).map (mvBuild ts d off) = some (.cell p) := fun g p hg => by simp [hg, mvBuild]
      refine r.names _ _ _ (fun g hg => by simp [hg]) (fun g hg e => hg (by simp [e])) (fun g i hg => by simp [hg, mvBuild]) rfl hcell r.defers
        (by simpa [Act.put] using r.size) (fun i hi => ?_) (fun i => ?_)
      · simp only [St.put]
        rw [if_neg (fun e => by rw [e] at hi; exact absurd hi (Nat.not_le_of_gt hd))]
        split
        · rfl
        · exact r.dom i hi
      · rw [getD_put a d _ i hd']
        simp only [St.put]
        by_cases hid : i = d
        · rw [if_pos hid, if_pos hid]
          simp only [RepD]
          refine ⟨us, rfl, RepDs.wk (coerT_wk _ _ _) (q2.rename fun g p ho => ?_)⟩
          obtain ⟨t', off', k1, k2, k3⟩ := ho
          injection k1 with k1; injection k1 with k1 k4; subst k1; subst k4
          simp [k3, mvBuild, hid, k2]
        · rw [if_neg hid, if_neg hid]
          by_cases hit : i = ts
          · rw [if_pos hit]; simp only [RepD]
          · rw [if_neg hit]
            refine (r.tm i).rename fun g p ho => ?_
            rw [ho]
            cases p with
            | nil => simp [mvBuild, hit]
            | cons x xs => simp [mvBuild]
    · cases e
  · cases e

/-- Is it appended to what is a box, will be one, or has no room? -/
def needA (s : St) (c : Call) : Bool :=
  match c.args.toList with
  | [x, y] => (match evalD s x with
    | some (.mt _ _) => true
    | some (.arr _ _ _ _) => true
    | some (.cp _ _) => true
    | _ => false) || (match evalD s y with
    | some (.arr _ _ _ _) => true
    | _ => false)
  | _ => false
/-- All operations but calls of Go functions. -/
def stepD (P : Program) (n : Nat) (tk : Bool) (o : Oper) (s : St) : Option St :=
  if dstOk n o.dst then
    match o.op with
    | .move x => moveD P tk o x s
    | .assign x => moveD P true o x s
    | .alloc t => allocD P o t s
    | .box t x => boxD P o t x s
    | .load t x => loadD P tk o t x s
    | .store t x y => storeD P o t x y s
    | .build t parts => buildD P o t parts.toList s
    | .buildSlice t len parts => buildSliceD P o t len parts.toList s
    | .makeSlice t l c => makeSliceD P o t l c s
    | .call c => match c.callee with
      | .builtin .append => if needA s c then appendA P o c s else appendD P o c s
      | .builtin .copy => copyD P o c s
      | .builtin .clear => clearD P o c s
      | _ => (callD P (evalD s) c).map (s.put o.dst)
    | op => (pureD P (evalD s) op).map (s.put o.dst)
  else none

theorem stepD_ok {C w0 h0 ow0 r0 n tk o s s'} (e : stepD C.P n tk o s = some s') : StepOK C w0 h0 ow0 r0 n o s s' := by
  unfold stepD at e
  split at e
  · rename_i hd
    split at e
    · rename_i x hop; exact moveD_ok (.inl hop) hd e
    · rename_i x hop; exact moveD_ok (.inr hop) hd e
    · rename_i t hop; exact allocD_ok hop hd e
    · rename_i t x hop; exact boxD_ok hop hd e
    · rename_i t x hop; exact loadD_ok hop hd e
    · rename_i t x y hop; exact storeD_ok hop e
    · rename_i t parts hop; exact buildD_ok hop hd e
    · rename_i t len parts hop; exact buildSliceD_ok hop hd e
    · rename_i t l c hop; exact makeSliceD_ok hop hd e
    · rename_i c hop
      split at e
      · rename_i hc
        split at e
        · exact appendA_ok hop hc hd e
        · exact appendD_ok hop hd e
      · rename_i hc; exact copyD_ok hop hc hd e
      · rename_i hc; exact clearD_ok hop hc hd e
      · obtain ⟨d, h1, h2⟩ := Option.map_eq_some_iff.1 e
        subst h2
        exact pureStep_ok hd (by rw [hop]; exact h1)
    · obtain ⟨d, h1, h2⟩ := Option.map_eq_some_iff.1 e
      subst h2
      exact pureStep_ok hd h1
  · cases e
end Go.Proofs.Dm

set_option linter.unusedVariables false
set_option linter.unusedSimpArgs false
namespace Go.Proofs.Dm
open Go Go.RowKit

mutual
def mapRef (f : Nat → Nat) : DV → DV
  | .ref i o => .ref (f i) o
  | .arr i o z n => .arr (f i) o z n
  | .agg cs => .agg (mapRefs f cs)
  | .tup cs => .tup (mapRefs f cs)
  | .fn g cs => .fn g (mapRefs f cs)
  | d => d
def mapRefs (f : Nat → Nat) : List DV → List DV
  | [] => []
  | d :: ds => mapRef f d :: mapRefs f ds
end
mutual
def refsD : DV → List Nat
  | .ref i _ => [i]
  | .arr i _ _ _ => [i]
  | .agg cs => refsDs cs
  | .tup cs => refsDs cs
  | .fn _ cs => refsDs cs
  | _ => []
def refsDs : List DV → List Nat
  | [] => []
  | d :: ds => refsD d ++ refsDs ds
end
mutual
theorem RepD.mapRef {w h ρ ρ'} (f : Nat → Nat) : ∀ (d : DV) (O : Nat → List Nat → Prop) (v : Value), (∀ i ∈ refsD d, ρ'[f i]? = ρ[i]?) → RepD w h ρ d O v → RepD w h ρ' (Dm.mapRef f d) O v
  | .ref i o, O, v, q, r => by
    simp only [RepD, Dm.mapRef] at r ⊢
    obtain ⟨b, hb, hv⟩ := r
    exact ⟨b, by rw [q i (by simp [refsD])]; exact hb, hv⟩
  | .agg cs, O, v, q, r => by
    simp only [RepD, Dm.mapRef] at r ⊢
    obtain ⟨vs, hv, hr⟩ := r
    exact ⟨vs, hv, RepDs.mapRefs f cs O 0 _ (fun i hi => q i (by simpa only [refsD] using hi)) hr⟩
  | .tup cs, O, v, q, r => by
    simp only [RepD, Dm.mapRef] at r ⊢
    obtain ⟨vs, hv, hr⟩ := r
    exact ⟨vs, hv, RepDs.mapRefs f cs O 0 _ (fun i hi => q i (by simpa only [refsD] using hi)) hr⟩
  | .fn g cs, O, v, q, r => by
    simp only [RepD, Dm.mapRef] at r ⊢
    obtain ⟨vs, hv, hr⟩ := r
    exact ⟨vs, hv, RepDs.mapRefs f cs O 0 _ (fun i hi => q i (by simpa only [refsD] using hi)) hr⟩
  | .p x, O, v, q, r => by simpa only [RepD, Dm.mapRef] using r
  | .nil, O, v, q, r => by simpa only [RepD, Dm.mapRef] using r
  | .own e z xs, O, v, q, r => by simpa only [RepD, Dm.mapRef] using r
  | .fr cs, O, v, q, r => by simpa only [RepD, Dm.mapRef] using r
  | .un, O, v, q, r => by simp only [RepD, Dm.mapRef]
  | .ud, O, v, q, r => by simpa only [RepD, Dm.mapRef] using r
  | .arr i o z n, O, v, q, r => by
    simp only [RepD, Dm.mapRef] at r ⊢
    obtain ⟨b, hb, hv⟩ := r
    exact ⟨b, by rw [q i (by simp [refsD])]; exact hb, hv⟩
  | .cp z xs, O, v, q, r => by simpa only [RepD, Dm.mapRef] using r
  | .mt e z, O, v, q, r => by simpa only [RepD, Dm.mapRef] using r
theorem RepDs.mapRefs {w h ρ ρ'} (f : Nat → Nat) : ∀ (ds : List DV) (O : Nat → List Nat → Prop) (k : Nat) (vs : List Value), (∀ i ∈ refsDs ds, ρ'[f i]? = ρ[i]?) → RepDs w h ρ ds O k vs → RepDs w h ρ' (Dm.mapRefs f ds) O k vs
  | [], O, k, vs, q, r => by simpa only [RepDs, Dm.mapRefs] using r
  | d :: ds, O, k, vs, q, r => by
    simp only [RepDs, Dm.mapRefs] at r ⊢
    obtain ⟨v, rest, hv, h1, h2⟩ := r
    exact ⟨v, rest, hv, RepD.mapRef f d _ v (fun i hi => q i (by simp [refsDs, hi])) h1, RepDs.mapRefs f ds O (k + 1) rest (fun i hi => q i (by simp [refsDs, hi])) h2⟩
end
mutual
theorem RepD.refs_ok {w h ρ} : ∀ (d : DV) (O : Nat → List Nat → Prop) (v : Value), RepD w h ρ d O v → ∀ i ∈ refsD d, ∃ b, ρ[i]? = some b
  | .ref j o, O, v, r, i, hi => by
    simp only [refsD, List.mem_singleton] at hi
    subst hi
    simp only [RepD] at r
    obtain ⟨b, hb, _⟩ := r
    exact ⟨b, hb⟩
  | .agg cs, O, v, r, i, hi => by simp only [RepD] at r; obtain ⟨vs, _, hr⟩ := r; exact RepDs.refs_ok cs _ _ _ hr i (by simpa only [refsD] using hi)
  | .tup cs, O, v, r, i, hi => by simp only [RepD] at r; obtain ⟨vs, _, hr⟩ := r; exact RepDs.refs_ok cs _ _ _ hr i (by simpa only [refsD] using hi)
  | .fn g cs, O, v, r, i, hi => by simp only [RepD] at r; obtain ⟨vs, _, hr⟩ := r; exact RepDs.refs_ok cs _ _ _ hr i (by simpa only [refsD] using hi)
  | .p x, O, v, r, i, hi => by simp [refsD] at hi
  | .nil, O, v, r, i, hi => by simp [refsD] at hi
  | .own e z xs, O, v, r, i, hi => by simp [refsD] at hi
  | .fr cs, O, v, r, i, hi => by simp [refsD] at hi
  | .un, O, v, r, i, hi => by simp [refsD] at hi
  | .ud, O, v, r, i, hi => by simp [refsD] at hi
  | .arr j o z n, O, v, r, i, hi => by
    simp only [refsD, List.mem_singleton] at hi
    subst hi
    simp only [RepD] at r
    obtain ⟨b, hb, _⟩ := r
    exact ⟨b, hb⟩
  | .cp z xs, O, v, r, i, hi => by simp [refsD] at hi
  | .mt e z, O, v, r, i, hi => by simp [refsD] at hi
theorem RepDs.refs_ok {w h ρ} : ∀ (ds : List DV) (O : Nat → List Nat → Prop) (k : Nat) (vs : List Value), RepDs w h ρ ds O k vs → ∀ i ∈ refsDs ds, ∃ b, ρ[i]? = some b
  | [], O, k, vs, r, i, hi => by simp [refsDs] at hi
  | d :: ds, O, k, vs, r, i, hi => by
    simp only [RepDs] at r
    obtain ⟨v, rest, rfl, h1, h2⟩ := r
    simp only [refsDs, List.mem_append] at hi
    rcases hi with hi | hi
    · exact RepD.refs_ok d _ _ h1 i hi
    · exact RepDs.refs_ok ds _ _ _ h2 i hi
end

/-- What a call of a Go function comes to. args: what it is handed; bs: the boxes that it reaches; r: what it gives; bs': the boxes behind it (new ones at the end). -/
def DCalls (C : Ctx) (f : FuncId) (args : List DV) (bs : List (List DV)) (r : DV) (bs' : List (List DV)) : Prop :=
  (∃ fn, C.P.funcs[f]? = some fn ∧ (fn.name == "runtime.NumGoroutine") = false ∧ fn.body.isNone = false) ∧
  ∀ w h ow ρ vs, RepDs w h ρ args (fun g p => ow g = some (.tmp p)) 0 vs → HR w h ρ ow bs → Glob C w ow →
    Calls C.P f vs.toArray w fun e w' => ∃ v h' ow' ex, e = .returned v ∧ Fr w h ow w' h' ow' ∧ HR w' h' (ρ ++ ex) ow' bs' ∧ RepD w' h' (ρ ++ ex) r (fun g p => ow' g = some (.res p)) v

theorem DCalls.wk {C f args bs r bs'} (d : DCalls C f args bs r bs') {args0 r'} (ka : Wks args0 args) (kr : Wk r r') : DCalls C f args0 bs r' bs' := by
  refine ⟨d.1, fun w h ow ρ vs ha hb hg => ?_⟩
  refine (d.2 w h ow ρ vs (RepDs.wk ka ha) hb hg).mono fun e w' ⟨v, h', ow', ex, h1, h2, h3, h4⟩ => ⟨v, h', ow', ex, h1, h2, h3, RepD.wk kr h4⟩

/-! ### The call at an operation -/
def calleeD (s : St) (x : Operand) : Option (FuncId × List DV) :=
  match evalD s x with
  | some (.fn f cap) => some (f, fzs cap)
  | _ => none
/-- Arguments: a slice of the call's own is handed over if its slot is named once. -/
def argsD (s : St) (all : List Operand) : List Operand → Option (List DV)
  | [] => some []
  | x :: xs => match evalD s x, argsD s all xs with
    | some d, some ds => some ((if hasOwn d then (match x with
        | .tmp t => if (all.filter fun y => match y with | .tmp u => u == t | _ => false).length = 1 then d else fz d
        | _ => fz d) else d) :: ds)
    | _, _ => none
def given (s : St) : List Operand → List Tmp
  | [] => []
  | .tmp t :: xs => if hasOwn (s.tm t) then t :: given s xs else given s xs
  | _ :: xs => given s xs
def addNew (l : List Nat) : List Nat → List Nat
  | [] => l
  | x :: xs => addNew (if l.contains x then l else l ++ [x]) xs
def boxRefs (hp : List (List DV)) : List Nat → List Nat
  | [] => []
  | i :: is => (match hp[i]? with
    | some b => refsDs b
    | none => []) ++ boxRefs hp is
def reach (hp : List (List DV)) (ds : List DV) : List Nat :=
  let a := addNew [] (refsDs ds)
  let b := addNew a (boxRefs hp a)
  addNew b (boxRefs hp b)
def subHp (hp : List (List DV)) : List Nat → Option (List (List DV))
  | [] => some []
  | i :: is => match hp[i]?, subHp hp is with
    | some b, some bs => some (b :: bs)
    | _, _ => none
def idxIn (ids : List Nat) (i : Nat) : Nat := ids.idxOf i
def backId (ids : List Nat) (n : Nat) (j : Nat) : Nat := match ids[j]? with
  | some i => i
  | none => n + (j - ids.length)
def writeBack (hp : List (List DV)) : List Nat → List (List DV) → List (List DV)
  | i :: is, b :: bs => writeBack (hp.set i b) is bs
  | _, bs => hp ++ bs
def St.kills (s : St) (ts : List Tmp) : St := { s with tm := fun i => if ts.contains i then .un else s.tm i }
/-- The state behind a call. -/
def afterCall (s : St) (dst : Option Tmp) (gone : List Tmp) (ids : List Nat) (r : DV) (bs' : List (List DV)) : St :=
  ({ s.kills gone with hp := writeBack s.hp ids (bs'.map (mapRefs (backId ids s.hp.length))) } : St).put dst (mapRef (backId ids s.hp.length) r)
def closedIn (ids : List Nat) (l : List Nat) : Bool := l.all fun i => ids.contains i
/-- A call: what must be shown of it, and where it comes to. -/
def callTo (C : Ctx) (n : Nat) (o : Oper) (c : Call) (x : Operand) (s s' : St) : Prop :=
  dstOk n o.dst = true ∧ ∃ f cap ds sub args r bs', calleeD s x = some (f, cap) ∧ argsD s c.args.toList c.args.toList = some ds ∧
    subHp s.hp (reach s.hp (ds ++ cap)) = some sub ∧ closedIn (reach s.hp (ds ++ cap)) (boxRefs s.hp (reach s.hp (ds ++ cap))) = true ∧ (reach s.hp (ds ++ cap)).Nodup ∧
    Wks (mapRefs (idxIn (reach s.hp (ds ++ cap))) (ds ++ cap)) args ∧ DCalls C f args (sub.map (mapRefs (idxIn (reach s.hp (ds ++ cap))))) r bs' ∧
    s' = afterCall s o.dst (given s c.args.toList) (reach s.hp (ds ++ cap)) r bs'

theorem subHp_spec {hp : List (List DV)} : ∀ {ids : List Nat} {sub : List (List DV)}, subHp hp ids = some sub → sub.length = ids.length ∧ ∀ (j i : Nat), ids[j]? = some i → ∃ b : List DV, hp[i]? = some b ∧ sub[j]? = some b
  | [], sub, e => by simp only [subHp, Option.some.injEq] at e; subst e; simp
  | i :: is, sub, e => by
    simp only [subHp] at e
    split at e
    · rename_i b bs h1 h2
      injection e with e; subst e
      obtain ⟨q1, q2⟩ := subHp_spec h2
      refine ⟨by simp [q1], fun j i' hj => ?_⟩
      cases j with
      | zero => simp at hj; subst hj; exact ⟨b, h1, by simp⟩
      | succ j => simp at hj; obtain ⟨b', p1, p2⟩ := q2 j i' hj; exact ⟨b', p1, by simpa using p2⟩
    · cases e
theorem boxRefs_spec {hp : List (List DV)} : ∀ {ids : List Nat} {i : Nat} {b : List DV}, i ∈ ids → hp[i]? = some b → ∀ j ∈ refsDs b, j ∈ boxRefs hp ids
  | [], i, b, hi, _, j, hj => by simp at hi
  | x :: xs, i, b, hi, hb, j, hj => by
    simp only [boxRefs, List.mem_append]
    rcases List.mem_cons.1 hi with e | e
    · subst e; rw [hb]; exact .inl hj
    · exact .inr (boxRefs_spec e hb j hj)
theorem addNew_mem : ∀ {xs l : List Nat} {i : Nat}, (i ∈ l ∨ i ∈ xs) → i ∈ addNew l xs
  | [], l, i, h => by simpa [addNew] using h
  | x :: xs, l, i, h => by
    simp only [addNew]
    apply addNew_mem
    rcases h with h | h
    · left; split
      · exact h
      · simp [h]
    · rcases List.mem_cons.1 h with e | e
      · left; subst e; split
        · rename_i hc; simpa using hc
        · simp
      · right; exact e
theorem reach_mem {hp : List (List DV)} {ds : List DV} {i : Nat} (h : i ∈ refsDs ds) : i ∈ reach hp ds := by
  unfold reach
  exact addNew_mem (.inl (addNew_mem (.inl (addNew_mem (.inr h)))))
theorem refsDs_append : ∀ (a b : List DV), refsDs (a ++ b) = refsDs a ++ refsDs b
  | [], b => rfl
  | d :: a, b => by simp [refsDs, refsDs_append a b]
theorem idx_get {ids : List Nat} {i : Nat} (h : i ∈ ids) : ids[idxIn ids i]? = some i := by
  unfold idxIn
  rw [List.getElem?_eq_getElem (List.idxOf_lt_length_of_mem h), List.getElem_idxOf]
end Go.Proofs.Dm

set_option linter.unusedVariables false
set_option linter.unusedSimpArgs false
namespace Go.Proofs.Dm
open Go Go.RowKit

def isTmp (t : Tmp) : Operand → Bool
  | .tmp u => u == t
  | _ => false
theorem argsD_spec {s : St} {all : List Operand} : ∀ {xs : List Operand} {ds : List DV}, argsD s all xs = some ds → ds.length = xs.length ∧
    ∀ (k : Nat) (x : Operand) (d : DV), xs[k]? = some x → ds[k]? = some d → ∃ d0, evalD s x = some d0 ∧
      ((hasOwn d = false ∧ ((d = d0 ∧ hasOwn d0 = false) ∨ d = fz d0)) ∨ (d = d0 ∧ ∃ t, x = .tmp t ∧ hasOwn (s.tm t) = true ∧ (all.filter (isTmp t)).length = 1))
  | [], ds, e => by simp only [argsD, Option.some.injEq] at e; subst e; simp
  | x :: xs, ds, e => by
    simp only [argsD] at e
    split at e
    · rename_i d0 ds' h1 h2
      injection e with e; subst e
      obtain ⟨q1, q2⟩ := argsD_spec h2
      refine ⟨by simp [q1], fun k y d hy hd => ?_⟩
      cases k with
      | succ k => exact q2 k y d (by simpa using hy) (by simpa using hd)
      | zero =>
        simp only [List.getElem?_cons_zero, Option.some.injEq] at hy hd
        subst hy; subst hd
        refine ⟨d0, h1, ?_⟩
        have hfz : hasOwn (fz d0) = false := by
          have : (∀ d : DV, hasOwn (fz d) = false) ∧ (∀ ds : List DV, hasOwns (fzs ds) = false) := by
            refine ⟨fun d => ?_, fun ds => ?_⟩
            · exact fz_noOwn d
            · exact fzs_noOwn ds
          exact this.1 d0
        split
        · rename_i ho
          split
          · rename_i t
            split
            · rename_i hc
              simp only [evalD, Option.some.injEq] at h1
              refine .inr ⟨rfl, t, rfl, by rw [h1]; exact ho, ?_⟩
              rw [← hc]; congr 1
            · exact .inl ⟨hfz, .inr rfl⟩
          · exact .inl ⟨hfz, .inr rfl⟩
        · rename_i ho
          have ho : hasOwn d0 = false := by simpa using ho
          exact .inl ⟨ho, .inl ⟨rfl, ho⟩⟩
    · cases e
where
  fz_noOwn : ∀ d : DV, hasOwn (fz d) = false
    | .own _ _ _ => rfl
    | .agg cs => by simp only [fz, hasOwn]; exact fzs_noOwn cs
    | .tup cs => by simp only [fz, hasOwn]; exact fzs_noOwn cs
    | .fn _ cs => by simp only [fz, hasOwn]; exact fzs_noOwn cs
    | .p _ => rfl
    | .nil => rfl
    | .ref _ _ => rfl
    | .fr _ => rfl
    | .un => rfl
    | .ud => rfl
    | .arr _ _ _ _ => rfl
    | .cp _ _ => rfl
    | .mt _ _ => rfl
  fzs_noOwn : ∀ ds : List DV, hasOwns (fzs ds) = false
    | [] => rfl
    | d :: ds => by simp only [fzs, hasOwns, fz_noOwn d, fzs_noOwn ds, Bool.or_false]

theorem given_mem {s : St} : ∀ {xs : List Operand} {t : Tmp}, t ∈ given s xs ↔ (.tmp t ∈ xs ∧ hasOwn (s.tm t) = true)
  | [], t => by simp [given]
  | x :: xs, t => by
    cases x with
    | tmp u =>
      simp only [given]
      split
      · rename_i h
        simp only [List.mem_cons, given_mem (xs := xs), Operand.tmp.injEq]
        constructor
        · rintro (e | ⟨e1, e2⟩)
          · subst e; exact ⟨.inl rfl, h⟩
          · exact ⟨.inr e1, e2⟩
        · rintro ⟨e | e, e2⟩
          · exact .inl e
          · exact .inr ⟨e, e2⟩
      · rename_i h
        simp only [given_mem (xs := xs), List.mem_cons, Operand.tmp.injEq]
        constructor
        · rintro ⟨e1, e2⟩; exact ⟨.inr e1, e2⟩
        · rintro ⟨e | e, e2⟩
          · subst e; exact absurd e2 h
          · exact ⟨e, e2⟩
    | const v => simp only [given, given_mem (xs := xs)]; simp
    | global g => simp only [given, given_mem (xs := xs)]; simp
    | func f => simp only [given, given_mem (xs := xs)]; simp

theorem findIdx_unique {α : Type} {p : α → Bool} : ∀ {l : List α} {k : Nat} {x : α}, l[k]? = some x → p x = true → (l.filter p).length = 1 → l.findIdx? p = some k
  | [], k, x, h, _, _ => by simp at h
  | y :: l, 0, x, h, hp, hl => by simp at h; subst h; simp [List.findIdx?_cons, hp]
  | y :: l, k + 1, x, h, hp, hl => by
    simp at h
    have hy : p y = false := by
      rcases hq : p y with _ | _
      · rfl
      · rw [List.filter_cons_of_pos (by simpa using hq)] at hl
        have hm : x ∈ l.filter p := List.mem_filter.2 ⟨List.mem_of_getElem? h, hp⟩
        have : (l.filter p).length = 0 := by simp only [List.length_cons] at hl; omega
        rw [List.eq_nil_of_length_eq_zero this] at hm
        cases hm
    rw [List.filter_cons_of_neg (by simp [hy])] at hl
    simp [List.findIdx?_cons, hy, findIdx_unique h hp hl]

theorem mapRefs_len (f : Nat → Nat) : ∀ (ds : List DV), (mapRefs f ds).length = ds.length
  | [] => rfl
  | d :: ds => by simp [mapRefs, mapRefs_len f ds]
def mapIn (s : St) (args : List Operand) (ids : List Nat) : Pos → Option Pos
  | .tmp (t :: p) => if hasOwn (s.tm t) then (args.findIdx? (isTmp t)).map fun k => .tmp (k :: p) else none
  | .cell (i :: p) => if ids.contains i then some (.cell (idxIn ids i :: p)) else none
  | .box i => if ids.contains i then some (.box (idxIn ids i)) else none
  | _ => none
def mapOut (dst : Option Tmp) (ids : List Nat) (n : Nat) : Pos → Pos
  | .res p => match dst with
    | some d => .tmp (d :: p)
    | none => .res []
  | .cell (j :: p) => .cell (backId ids n j :: p)
  | .box j => .box (backId ids n j)
  | _ => .res []

theorem idx_of_get {ids : List Nat} (hn : ids.Nodup) {j i : Nat} (h : ids[j]? = some i) : idxIn ids i = j := by
  obtain ⟨hj, e⟩ := List.getElem?_eq_some_iff.1 h
  unfold idxIn
  subst e
  exact hn.idxOf_getElem j hj

theorem writeBack_len : ∀ {hp : List (List DV)} {ids : List Nat} {bs : List (List DV)}, ids.length ≤ bs.length → (writeBack hp ids bs).length = hp.length + (bs.length - ids.length)
  | hp, [], bs, h => by cases bs <;> simp [writeBack]
  | hp, i :: is, [], h => by simp at h
  | hp, i :: is, b :: bs, h => by simp only [writeBack]; rw [writeBack_len (by simpa using h)]; simp
theorem writeBack_get : ∀ {hp : List (List DV)} {ids : List Nat} {bs : List (List DV)}, ids.Nodup → (∀ i ∈ ids, i < hp.length) → ids.length ≤ bs.length → ∀ (i : Nat),
    (writeBack hp ids bs)[i]? = if i < hp.length then (if i ∈ ids then bs[idxIn ids i]? else hp[i]?) else bs[ids.length + (i - hp.length)]?
  | hp, [], bs, hn, hl, hb, i => by
    have : writeBack hp [] bs = hp ++ bs := by cases bs <;> rfl
    rw [this]
    by_cases h : i < hp.length
    · rw [if_pos h, List.getElem?_append_left h]; simp
    · rw [if_neg h, List.getElem?_append_right (by omega)]; simp
  | hp, x :: xs, [], hn, hl, hb, i => by simp at hb
  | hp, x :: xs, b :: bs, hn, hl, hb, i => by
    simp only [writeBack]
    obtain ⟨hx, hn'⟩ := List.nodup_cons.1 hn
    rw [writeBack_get hn' (fun j hj => by simpa using hl j (by simp [hj])) (by simpa using hb)]
    simp only [List.length_set]
    by_cases h : i < hp.length
    · rw [if_pos h, if_pos h]
      by_cases hxs : i ∈ xs
      · have hne : i ≠ x := fun e => hx (by rw [← e]; exact hxs)
        rw [if_pos hxs, if_pos (by simp [hxs])]
        unfold idxIn
        have hb : (x == i) = false := by
          rw [beq_eq_false_iff_ne]; exact fun e => hne e.symm
        rw [List.idxOf_cons, hb]
        simp
      · rw [if_neg hxs]
        by_cases hix : i = x
        · subst hix
          rw [if_pos (by simp), List.getElem?_set_self h]
          unfold idxIn
          simp
        · rw [if_neg (by simp [hix, hxs]), List.getElem?_set_ne (fun e => hix e.symm)]
    · rw [if_neg h, if_neg h]
      simp only [List.length_cons]
      have : xs.length + 1 + (i - hp.length) = (xs.length + (i - hp.length)) + 1 := by omega
      rw [this, List.getElem?_cons_succ]

theorem callTo_ok {C w0 h0 ow0 r0 n o} {c : Call} {x s s'} (hop : o.op = .call c) (hcal : c.callee = .value x) (hcall : callTo C n o c x s s') : StepOK C w0 h0 ow0 r0 n o s s' := by
  intro a w h ow ρ r K Q hK
  obtain ⟨hd, f, cap, ds, sub, args, res, bs', hcallee, hargs, hsub, hclosed, hnodup, hwk, hdc, hs'⟩ := hcall
  generalize hids : reach s.hp (ds ++ cap) = ids at *
  obtain ⟨⟨fn, hfn, hname, hbody⟩, hdc⟩ := hdc
  -- the function
  have hcal' : ∃ cv cap0, evalD s x = some (.fn f cap0) ∧ cap = fzs cap0 ∧ a.eval x = .func (.func f) #[] cv ∧ (∀ O k, RepDs w h ρ cap O k cv.toList) := by
    unfold calleeD at hcallee
    split at hcallee
    · rename_i f' cap0 hx
      injection hcallee with q; injection q with q1 q2; subst q1; subst q2
      have hr := evalD_rep r hx
      simp only [RepD] at hr
      obtain ⟨vs, hv, hr⟩ := hr
      exact ⟨vs, cap0, hx, rfl, hv, fun O k => hr.fz_any O k⟩
    · cases hcallee
  obtain ⟨cv, cap0, hx, rfl, hv, hcv⟩ := hcal'
  obtain ⟨hdl, hdspec⟩ := argsD_spec hargs
  have hrun : (execOp a.eval o).run C.P w = .ok (.enter f (c.args.map a.eval ++ cv)) w := by
    have hb : ¬ (fn.body.isNone = true) := by rw [hbody]; simp
    simp only [execOp, hop, resolve, hcal, hv, Deferred.ofValue, Sem.run_bind, Sem.run_pure, Result.andThen_ok, invoke, callFunc, program, Sem.run, hfn, hname, Bool.false_eq_true, if_false, if_neg hb, Array.empty_append]
  obtain ⟨hsl, hsubspec⟩ := subHp_spec hsub
  have hidlt : ∀ i ∈ ids, i < s.hp.length := by
    intro i hi
    obtain ⟨j, hj⟩ := List.mem_iff_getElem?.1 hi
    obtain ⟨b, q1, _⟩ := hsubspec j i hj
    exact (List.getElem?_eq_some_iff.1 q1).1
  have hρget : ∀ i ∈ ids, ρ[i]? = some (ρ.getD i 0) := by
    intro i hi
    have hlt : i < ρ.length := by rw [← r.hr.len]; exact hidlt i hi
    rw [List.getElem?_eq_getElem hlt, List.getD_eq_getElem?_getD, List.getElem?_eq_getElem hlt]; rfl
  let ρc : List Nat := ids.map fun i => ρ.getD i 0
  let owc : Own := fun g => (ow g).bind (mapIn s c.args.toList ids)
  have hρc : ∀ i ∈ ids, ρc[idxIn ids i]? = ρ[i]? := by
    intro i hi
    simp only [ρc, List.getElem?_map, idx_get hi, Option.map_some, hρget i hi]
  -- the arguments
  have hA : RepDs w h ρ (ds ++ fzs cap0) (fun g p => owc g = some (.tmp p)) 0 ((c.args.map a.eval).toList ++ cv.toList) := by
    refine RepDs.append (RepDs.of_get (by simp [hdl]) fun k d v hk hvk => ?_) (hcv _ _)
    have hkx : k < c.args.toList.length := by rw [← hdl]; exact (List.getElem?_eq_some_iff.1 hk).1
    obtain ⟨d0, q1, q2⟩ := hdspec k _ d (List.getElem?_eq_getElem hkx) hk
    rw [Array.toList_map, List.getElem?_map, List.getElem?_eq_getElem hkx] at hvk
    simp only [Option.map_some, Option.some.injEq] at hvk
    subst hvk
    have hr0 := evalD_rep r q1
    rcases q2 with ⟨hno, ⟨rfl, hno'⟩ | rfl⟩ | ⟨rfl, t, hxt, hot, huniq⟩
    · exact RepD.free _ _ _ _ hno hr0
    · exact RepD.fz _ _ _ _ hr0
    · rw [hxt] at hr0 ⊢
      refine hr0.rename fun g p ho => ?_
      have ho : ow g = some (.tmp (t :: p)) := ho
      have hfi := findIdx_unique (p := isTmp t) (List.getElem?_eq_getElem hkx) (by rw [hxt]; simp [isTmp]) huniq
      simp only [owc, ho, Option.bind_some, mapIn, hot, if_true, hfi, Option.map_some, Nat.zero_add]
  have hA' : RepDs w h ρc args (fun g p => owc g = some (.tmp p)) 0 ((c.args.map a.eval).toList ++ cv.toList) :=
    RepDs.wk hwk (RepDs.mapRefs _ _ _ _ _ (fun i hi => hρc i (by rw [← hids]; exact reach_mem hi)) hA)
  -- the boxes
  have hB : HR w h ρc owc (sub.map (mapRefs (idxIn ids))) := by
    refine ⟨by simp [ρc, hsl], fun j bx b g1 g2 hne => ?_, fun g hg => r.hr.lt g (fun e => hg (by simp [owc, e])), r.hr.hz⟩
    simp only [ρc, List.getElem?_map] at g1 g2
    obtain ⟨i, hi1, hi2⟩ := Option.map_eq_some_iff.1 g2
    obtain ⟨bx0, hb1, hb2⟩ := hsubspec j i hi1
    have hi : i ∈ ids := List.mem_of_getElem? hi1
    rw [hb2] at g1
    simp only [Option.map_some, Option.some.injEq] at g1
    subst g1
    have hρi : ρ[i]? = some b := by rw [hρget i hi, hi2]
    obtain ⟨p1, p2, cs, T, hh, hl0, hrr⟩ := r.hr.box i bx0 b hb1 hρi (fun e => hne (by rw [e]; rfl))
    have hj : idxIn ids i = j := idx_of_get hnodup hi1
    refine ⟨by simp [owc, p1, mapIn, hi, hj], p2, cs, T, hh, by rw [mapRefs_len]; exact hl0, ?_⟩
    rw [mapRefs_len]
    refine RepDs.mapRefs _ _ _ _ _ (fun i' hi' => hρc i' ?_) (hrr.rename fun g p ho => by simp [owc, ho, mapIn, hi, hj])
    have := boxRefs_spec (ids := ids) hi hb1 i' hi'
    have hc := List.all_eq_true.1 hclosed i' this
    simpa using hc
  have hG : Glob C w owc := ⟨r.glob.nb, fun b hb => ⟨(r.glob.eq b hb).1, by simp [owc, (r.glob.eq b hb).2]⟩⟩
  have hC := hdc w h owc ρc _ hA' hB hG
  unfold Oper.wp
  rw [hrun]
  show Calls C.P f (c.args.map a.eval ++ cv) w _
  have harr : (c.args.map a.eval ++ cv) = ((c.args.map a.eval).toList ++ cv.toList).toArray := by simp
  rw [harr]
  refine hC.mono fun e w' ⟨v, h', owc', ex, he, hfr, hhr, hrv⟩ => ?_
  subst he
  show K (a.put o.dst v) w'
  have hmine : ∀ g, owc' g ≠ none → ¬ (g < w.heap.size ∧ owc g = none) := fun g hg hc => hg (hfr.keep g hc.1 hc.2).2.2
  let ow' : Own := fun g => if g < w.heap.size ∧ owc g = none then ow g else (owc' g).map (mapOut o.dst ids s.hp.length)
  have hlen : ids.length ≤ bs'.length := by rw [hhr.len]; simp [ρc]
  have hρlen : s.hp.length = ρ.length := r.hr.len
  have hρb : ∀ j, (ρ ++ ex)[backId ids s.hp.length j]? = (ρc ++ ex)[j]? := by
    intro j
    unfold backId
    split
    · rename_i i hj
      have hi : i ∈ ids := List.mem_of_getElem? hj
      have hjl := (List.getElem?_eq_some_iff.1 hj).1
      rw [List.getElem?_append_left (by rw [← hρlen]; exact hidlt i hi), List.getElem?_append_left (by simpa [ρc] using hjl)]
      simp only [ρc, List.getElem?_map, hj, Option.map_some, hρget i hi]
    · rename_i hj
      have hjl : ids.length ≤ j := List.getElem?_eq_none_iff.1 hj
      rw [List.getElem?_append_right (by omega), List.getElem?_append_right (by simpa [ρc] using hjl)]
      congr 1
      simp [ρc]; omega
  have hst : Stable w h w' h' := hfr.st
  have hkeepO : ∀ (P : Nat → List Nat → Prop), (∀ g p, P g p → ow g ≠ none ∧ owc g = none) → ∀ g p, P g p → w'.heap[g]? = w.heap[g]? ∧ h' g = h g ∧ ow' g = ow g := by
    intro P hP g p hp
    obtain ⟨k1, k2⟩ := hP g p hp
    have hlt := r.hr.lt g k1
    obtain ⟨e1, e2, e3⟩ := hfr.keep g hlt k2
    exact ⟨e1, e2, by simp only [ow']; rw [if_pos ⟨hlt, k2⟩]⟩
  have hpre : ∀ (i b : Nat), ρ[i]? = some b → (ρ ++ ex)[i]? = some b := fun i b hi => by
    rw [List.getElem?_append_left (List.getElem?_eq_some_iff.1 hi).1]; exact hi
  have hout : ∀ g q, owc' g = some q → ow' g = some (mapOut o.dst ids s.hp.length q) := by
    intro g q hq
    simp only [ow']
    rw [if_neg (hmine g (by rw [hq]; simp)), hq]; rfl
  have hfr' : Fr w h ow w' h' ow' := ⟨hst, hfr.size, hfr.os, hfr.tape, hfr.output, fun b hb ho => by
    have hoc : owc b = none := by simp [owc, ho]
    obtain ⟨e1, e2, e3⟩ := hfr.keep b hb hoc
    exact ⟨e1, e2, by simp only [ow']; rw [if_pos ⟨hb, hoc⟩]; exact ho⟩⟩
  have hwlen := writeBack_len (hp := s.hp) (ids := ids) (bs := bs'.map (mapRefs (backId ids s.hp.length))) (by simpa using hlen)
  refine hK _ _ h' ow' (ρ ++ ex) ?_
  rw [hs']
  have hHR : HR w' h' (ρ ++ ex) ow' (writeBack s.hp ids (bs'.map (mapRefs (backId ids s.hp.length)))) := by
    refine ⟨?_, fun i bx b g1 g2 hne => ?_, fun g hg => ?_, hhr.hz⟩
    · rw [hwlen]
      have := hhr.len
      simp [ρc] at this
      simp; omega
    · rw [writeBack_get hnodup hidlt (by simpa using hlen)] at g1
      -- a box that the callee has had, or has made
      have fromC : ∀ j (bx0 : List DV), bs'[j]? = some bx0 → i = backId ids s.hp.length j → bx = mapRefs (backId ids s.hp.length) bx0 →
          ow' b = some (.box i) ∧ h' b = 0 ∧ ∃ cs T, w'.heap[b]? = some (.cells cs T (0, 0)) ∧ bx.length ≤ cs.size ∧ RepDs w' h' (ρ ++ ex) bx (fun g p => ow' g = some (.cell (i :: p))) 0 (cs.toList.take bx.length) := by
        intro j bx0 hj hij hbx
        subst hbx
        have hjb : (ρc ++ ex)[j]? = some b := by rw [← hρb j, ← hij]; exact g2
        obtain ⟨p1, p2, cs, T, hh, hl0, hrr⟩ := hhr.box j bx0 b hj hjb (fun e => hne (by rw [e]; rfl))
        refine ⟨by rw [hout b _ p1, hij]; rfl, p2, cs, T, hh, by rw [mapRefs_len]; exact hl0, ?_⟩
        rw [mapRefs_len]
        exact RepDs.mapRefs _ _ _ _ _ (fun i' _ => hρb i') (hrr.rename fun g p ho => by rw [hout g _ ho, hij]; rfl)
      split at g1
      · rename_i hilt
        split at g1
        · rename_i hi
          rw [List.getElem?_map] at g1
          obtain ⟨bx0, q1, q2⟩ := Option.map_eq_some_iff.1 g1
          exact fromC _ bx0 q1 (by unfold backId; rw [idx_get hi]) q2.symm
        · rename_i hi
          have hρi : ρ[i]? = some b := by
            rw [List.getElem?_append_left (by omega)] at g2; exact g2
          obtain ⟨p1, p2, cs, T, hh, hl0, hrr⟩ := r.hr.box i bx b g1 hρi hne
          have hb := hkeepO (fun g _ => g = b) (fun g p e => by rw [e]; exact ⟨by rw [p1]; simp, by simp [owc, p1, mapIn, hi]⟩) b [] rfl
          refine ⟨by rw [hb.2.2]; exact p1, by rw [hb.2.1]; exact p2, cs, T, by rw [hb.1]; exact hh, hl0, ?_⟩
          refine RepDs.step hst hpre bx _ _ 0 _ (fun g p ho => ?_) hrr
          have := hkeepO (fun g p => ow g = some (.cell (i :: p))) (fun g p e => ⟨by rw [e]; simp, by simp [owc, e, mapIn, hi]⟩) g p ho
          exact ⟨this.1, this.2.1, by rw [this.2.2]; exact ho⟩
      · rename_i hilt
        rw [List.getElem?_map] at g1
        obtain ⟨bx0, q1, q2⟩ := Option.map_eq_some_iff.1 g1
        refine fromC _ bx0 q1 ?_ q2.symm
        unfold backId
        rw [List.getElem?_eq_none_iff.2 (by omega)]
        simp only []
        omega
    · by_cases hc : g < w.heap.size ∧ owc g = none
      · exact Nat.lt_of_lt_of_le hc.1 hfr.size
      · simp only [ow'] at hg
        rw [if_neg hc] at hg
        exact hhr.lt g (fun e => hg (by simp [e]))
  have hgone : ∀ i, ((s.kills (given s c.args.toList)).tm i = .un) ∨ ((s.kills (given s c.args.toList)).tm i = s.tm i ∧ ∀ g p, ow g = some (.tmp (i :: p)) → owc g = none) := by
    intro i
    simp only [St.kills]
    by_cases hi : (given s c.args.toList).contains i = true
    · rw [if_pos hi]; exact .inl rfl
    · rw [if_neg hi]
      refine .inr ⟨rfl, fun g p ho => ?_⟩
      simp only [owc, ho, Option.bind_some, mapIn]
      split
      · rename_i hown
        have : (c.args.toList.findIdx? (isTmp i)) = none := by
          rw [List.findIdx?_eq_none_iff]
          intro y hy
          rcases hq : isTmp i y with _ | _
          · rfl
          · exfalso
            apply hi
            have hyt : y = .tmp i := by
              cases y <;> simp [isTmp] at hq
              rw [hq]
            rw [hyt] at hy
            simpa using (given_mem (s := s)).2 ⟨hy, hown⟩
        rw [this]; rfl
      · rfl
  have htm : ∀ i, RepD w' h' (ρ ++ ex) ((s.kills (given s c.args.toList)).tm i) (fun g p => ow' g = some (.tmp (i :: p))) (a.tmps.getD i undef) := by
    intro i
    rcases hgone i with e | ⟨e, q⟩
    · rw [e]; simp only [RepD]
    · rw [e]
      refine RepD.step hst hpre _ _ _ _ (fun g p ho => ?_) (r.tm i)
      have := hkeepO (fun g p => ow g = some (.tmp (i :: p))) (fun g p e => ⟨by rw [e]; simp, q g p e⟩) g p ho
      exact ⟨this.1, this.2.1, by rw [this.2.2]; exact ho⟩
  have hdom : ∀ i, n ≤ i → (s.kills (given s c.args.toList)).tm i = .un := by
    intro i hi
    simp only [St.kills]
    split
    · rfl
    · exact r.dom i hi
  have hpre' : ∃ ex', ρ ++ ex = r0 ++ ex' := by
    obtain ⟨ex0, hex⟩ := r.pre
    exact ⟨ex0 ++ ex, by rw [hex, List.append_assoc]⟩
  unfold afterCall
  rcases hdst : o.dst with _ | d
  · simp only [St.put, Act.put]
    exact ⟨r.glob.fr hfr', r.fr.trans hfr', hHR, r.defers, r.size, htm, hdom, hpre'⟩
  · rw [hdst] at hd
    simp only [dstOk, decide_eq_true_eq] at hd
    have hd' : d < a.tmps.size := by rw [r.size]; exact hd
    refine ⟨r.glob.fr hfr', r.fr.trans hfr', hHR, r.defers, by simpa [Act.put] using r.size, fun i => ?_, fun i hi => ?_, hpre'⟩
    · rw [getD_put a d _ i hd']
      simp only [St.put]
      by_cases hid : i = d
      · rw [if_pos hid, if_pos hid]
        refine RepD.mapRef _ _ _ _ (fun i' _ => hρb i') (hrv.rename fun g p ho => ?_)
        rw [hout g _ ho, hdst, hid]; rfl
      · rw [if_neg hid, if_neg hid]
        exact htm i
    · simp only [St.put]
      rw [if_neg (fun e => by rw [e] at hi; exact absurd hi (Nat.not_le_of_gt hd))]
      exact hdom i hi
end Go.Proofs.Dm
