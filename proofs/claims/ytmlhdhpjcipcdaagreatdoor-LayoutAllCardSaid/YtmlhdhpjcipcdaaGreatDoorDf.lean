/- Part of the proof: contracts of the functions, walked by the D-machine. No condition. -/
import Derived.Test.YtmlhdhpjcipcdaaGreatDoorDe
set_option linter.unusedVariables false
set_option linter.unusedSimpArgs false
namespace Go.Proofs.Dm
open Go Go.RowKit
theorem buildSliceD_ok {C w0 h0 ow0 r0 n o t len} {parts : Array (Nat × Operand)} {s s'} (hop : o.op = .buildSlice t len parts) (hd : dstOk n o.dst = true) (e : buildSliceD C.P o t len parts.toList s = some s') :
    StepOK C w0 h0 ow0 r0 n o s s' := by
  intro a w h ow ρ r K Q hK
  unfold buildSliceD at e
  split at e
  · rename_i el d hts hdst
    split at e
    · rename_i z zv hz hzv
      split at e
      · rename_i rows hrows
        split at e
        · rename_i hc
          obtain ⟨hl, h24, h0z, hzz⟩ := hc
          injection e with e; subst e
          let cells0 : Array Value := (Array.range (len * z)).map (((if len * z = 0 then #[] else zv.cells) : Array Value)[· % ((if len * z = 0 then #[] else zv.cells) : Array Value).size]!)
          obtain ⟨vals, q1, q2, q3, q4, q5⟩ := rows_fill r parts.toList 0 rows cells0 hrows (by simp [cells0, hl])
          simp only [Nat.zero_mul, List.take_zero, List.nil_append] at q1
          have hparts : (parts.map fun (i, x) => (i, a.eval x)).toList = parts.toList.map fun p => (p.1, a.eval p.2) := by
            rw [Array.toList_map]
          have hrun : (execOp a.eval o).run C.P w = .ok (.value (.slice (some ⟨w.heap.size, 0, none⟩) len len)) (w.alloc (.cells vals.toArray el)) := by
            have h24' : ¬ (len * z > 2 ^ 24) := by omega
            simp only [execOp, hop, Instr.buildSlice, Sem.run_bind, run_underlying (tslice_spec hts), Result.andThen_ok, tsz_spec hz, if_neg h24', Sem.run_pure]
            by_cases hzero : len * z = 0
            · simp only [if_pos hzero, pure_bind, Sem.run_bind, Sem.run_pure, Result.andThen_ok]
              rw [hparts]
              simp only [cells0, if_pos hzero] at q1
              rw [q1]
              simp only [Sem.run_bind, newRow, newObj, Sem.run, Sem.run_pure, Result.andThen_ok]
              rfl
            · simp only [if_neg hzero, Sem.run_bind, Sem.run_pure, tzero_spec hzv, Result.andThen_ok]
              rw [hparts]
              simp only [cells0, if_neg hzero] at q1
              rw [q1]
              simp only [Sem.run_bind, newRow, newObj, Sem.run, Sem.run_pure, Result.andThen_ok]
              rfl
          unfold Oper.wp
          rw [hrun]
          show K (a.put o.dst _) _
          rw [hdst] at hd ⊢
          have hown : (w.alloc (.cells vals.toArray el)).ownsRow 0 el z (.slice (some ⟨w.heap.size, 0, none⟩) len len) rows.length vals := by
            refine ⟨by rw [q2], .inr ⟨w.heap.size, len, vals.toArray, by rw [hl], by omega, heap_alloc_new w _, by omega, ?_, by simp [q2, hl], ?_⟩⟩
            · simp only [maxLen]
              have : len * 1 ≤ len * z := Nat.mul_le_mul_left _ h0z
              omega
            · rw [List.take_of_length_le (by simp [q2])]
          have hgrow : w.grownBy (w.alloc (.cells vals.toArray el)) (Value.slice none 0 0).ownBlock := ⟨rfl, rfl, rfl, by simp, fun k hk _ => heap_alloc_old w _ hk⟩
          have hstab : ∀ b i, i < h b → (w.alloc (.cells vals.toArray el)).cell? ⟨b, i, none⟩ = w.cell? ⟨b, i, none⟩ := by
            intro b i hi
            have hlt : b < w.heap.size := by
              rcases Nat.lt_or_ge b w.heap.size with q | q
              · exact q
              · rw [r.hr.hz b q] at hi; omega
            simp only [World.cell?, heap_alloc_old w _ hlt]
          have := r.appended none d (by simpa [dstOk] using hd) (v := .slice none 0 0) (fun g hg => by simp [Value.ownBlock] at hg) hgrow hstab (fun b cs T f q => ⟨cs, f, by rw [heap_alloc_old w _ (Array.getElem?_eq_some_iff.1 q).1]; exact q, rfl⟩) h0z hown q3 q4 q5 (.inr (.inr rfl))
            (fun g hg => by
              have : w.heap.size = g := by simpa [Value.ownBlock] using hg
              rw [r.hr.hz g (by omega)]; exact Nat.zero_le _)
          refine hK _ _ _ _ _ (this.weak (s.put (some d) (ownD el z rows)) rfl (fun i => ?_) (fun i hi => ?_))
          · simp only [St.put]
            split
            · exact ownD_wk _ _ _
            · exact .refl _
          · have hdn : d < n := by simpa [dstOk] using hd
            simp only [St.put]
            rw [if_neg (fun e : i = d => absurd (e ▸ hi) (Nat.not_le_of_gt hdn))]
            exact r.dom i hi
        · cases e
      · cases e
    · cases e
  · cases e
def tplacesL (P : Program) : List Field → Option (List (Nat × Nat))
  | [] => some []
  | f :: fs => match tsz P f.type, tplacesL P fs with
    | some z, some r => some ((f.offset, z) :: r)
    | _, _ => none
def tplaces (P : Program) (t : TypeId) : Option (List (Nat × Nat)) := match P.underlying t with
  | some (.struct fs) => tplacesL P fs.toList
  | _ => none
theorem tplacesL_run {P : Program} : ∀ {fs : List Field} {r : List (Nat × Nat)}, tplacesL P fs = some r → ∀ w, (fs.mapM fun f => (do pure (f.offset, ← sizeOf f.type) : Sem (Nat × Nat))).run P w = .ok r w
  | [], r, e, w => by simp only [tplacesL, Option.some.injEq] at e; subst e; simp
  | f :: fs, r, e, w => by
    simp only [tplacesL] at e
    split at e
    · rename_i z q h1 h2
      injection e with e; subst e
      have ih := tplacesL_run h2 w
      simp only [List.mapM_cons, Sem.run_bind, Sem.run_pure, tsz_spec h1, Result.andThen_ok]
      rw [ih]
      rfl
    · cases e
def fillD (s : St) (pl : List (Nat × Nat)) : List (Nat × Operand) → List DV → Option (Tmp × Nat) → Option (List DV × Option (Tmp × Nat))
  | [], cells, w => some (cells, w)
  | (i, x) :: rest, cells, w => match pl[i]?, evalD s x with
    | some (off, z), some v => if hasOwn v then (match x, w, v with
        | .tmp t, none, .own e zz xs => if z = 1 ∧ off < cells.length then fillD s pl rest (cells.take off ++ [.own e zz xs] ++ cells.drop (off + 1)) (some (t, off)) else none
        | _, _, _ => none)
      else (match flat v with
        | some cs => if cs.length = z ∧ off + z ≤ cells.length then fillD s pl rest (cells.take off ++ cs ++ cells.drop (off + z)) w else none
        | none => none)
    | _, _ => none
def buildD (P : Program) (o : Oper) (t : TypeId) (parts : List (Nat × Operand)) (s : St) : Option St :=
  match o.dst, tplaces P t, zeroCellsT P t with
  | some d, some pl, some z => match fillD s pl parts z none with
    | some (cells, none) => some (s.put (some d) (.agg (coerT P t cells)))
    | some (cells, some (ts, _)) => some ((s.put (some ts) .un).put (some d) (.agg (coerT P t cells)))
    | none => none
  | _, _, _ => none
def bOwn (ow : Own) (k : Option (Tmp × Nat)) : Nat → List Nat → Prop := fun g p => ∃ t off, k = some (t, off) ∧ p = [off] ∧ ow g = some (.tmp [t])
theorem fill_splice {P : Program} {place : Nat → Option (Nat × Nat)} {i off z : Nat} (hp : place i = some (off, z)) {v : Value} (hv : v.cells.size = z) {cells : Array Value} (hl : off + z ≤ cells.size) (rest : List (Nat × Value)) :
    Instr.fill place cells ((i, v) :: rest) = Instr.fill place (cells.toList.take off ++ v.cells.toList ++ cells.toList.drop (off + z)).toArray rest := by
  have hfold := foldl_cells v off cells (by rw [hv]; exact hl)
  simp only [Instr.fill, hp]
  rw [if_neg (by simp [hv]; omega)]
  congr 1
  rw [← hv, ← hfold, Array.toArray_toList]
theorem flat_any {w h ρ d O v cs} (e : flat d = some cs) (hn : hasOwn d = false) (r : RepD w h ρ d O v) (O' : Nat → List Nat → Prop) (k : Nat) : RepDs w h ρ cs O' k v.cells.toList := by
  obtain ⟨O2, hr, hO2⟩ := flat_rep e (RepD.free _ _ (fun _ _ => False) _ hn r)
  refine RepDs.of_get hr.length fun i d v hd hv => ?_
  obtain ⟨v', q1, q2⟩ := hr.get i d hd
  rw [q1] at hv; injection hv with hv; subst hv
  exact q2.rename fun g p ho => (hO2 g (0 + i) p ho).elim
theorem fillD_ok {C w0 h0 ow0 r0 n s a w h ow ρ} (r : Rel C w0 h0 ow0 r0 n s a w h ow ρ) {pl : List (Nat × Nat)} : ∀ (parts : List (Nat × Operand)) (cells : List DV) (k : Option (Tmp × Nat)) (res : List DV) (k' : Option (Tmp × Nat)) (vs : Array Value),
    fillD s pl parts cells k = some (res, k') → RepDs w h ρ cells (bOwn ow k) 0 vs.toList →
    ∃ us : Array Value, Instr.fill (pl[·]?) vs (parts.map fun p => (p.1, a.eval p.2)) = some us ∧ RepDs w h ρ res (bOwn ow k') 0 us.toList ∧ (k = none ∨ k = k')
  | [], cells, k, res, k', vs, e, hr => by
    simp only [fillD, Option.some.injEq, Prod.mk.injEq] at e
    obtain ⟨rfl, rfl⟩ := e
    exact ⟨vs, rfl, hr, .inr rfl⟩
  | (i, x) :: rest, cells, k, res, k', vs, e, hr => by
    have hlen := hr.length
    simp only [fillD] at e
    split at e
    · rename_i off z v hpl hv
      have hv' := evalD_rep r hv
      split at e
      · split at e
        · rename_i t e2 zz xs _
          split at e
          · rename_i hc
            obtain ⟨rfl, hoff⟩ := hc
            have h1 : (a.eval (.tmp t)).cells.size = 1 := by
              have := solid_one (d := .own e2 zz xs) rfl hv'
              cases hval : a.eval (.tmp t) <;> first | rfl | (rw [hval] at this; simp [Value.oneCell'] at this)
            have h2 : (a.eval (.tmp t)).cells.toList = [a.eval (.tmp t)] := by
              have := solid_one (d := .own e2 zz xs) rfl hv'
              cases hval : a.eval (.tmp t) <;> first | rfl | (rw [hval] at this; simp [Value.oneCell'] at this)
            have hsz : vs.size = cells.length := by simpa using hlen
            have hfs := fill_splice (P := C.P) (place := (pl[·]?)) hpl h1 (cells := vs) (by omega) (rest.map fun p => (p.1, a.eval p.2))
            obtain ⟨us, q1, q2, q3⟩ := fillD_ok r rest _ _ res k' (vs.toList.take off ++ (a.eval (.tmp t)).cells.toList ++ vs.toList.drop (off + 1)).toArray e (by
              refine RepDs.of_get (by simp [h2]; omega) fun j d u hd hu => ?_
              rw [splice3_get cells [.own e2 zz xs] off 1 rfl (by omega) j] at hd
              have hu : (vs.toList.take off ++ (a.eval (.tmp t)).cells.toList ++ vs.toList.drop (off + 1))[j]? = some u := hu
              rw [splice3_get vs.toList _ off 1 (by simpa using h1) (by simp; omega) j] at hu
              split at hd
              · rename_i hj
                rw [if_pos hj] at hu
                have : j = off := by omega
                subst this
                simp only [Nat.sub_self, List.getElem?_cons_zero, Option.some.injEq] at hd
                subst hd
                rw [h2] at hu
                simp only [Nat.sub_self, List.getElem?_cons_zero, Option.some.injEq] at hu
                subst hu
                simp only [RepD] at hv' ⊢
                obtain ⟨vals, k1, k2, k3, k4, k5, k6⟩ := hv'
                exact ⟨vals, k1, k2, k3, k4, k5, fun g hg => ⟨(k6 g hg).1, ⟨t, j, rfl, by simp, (k6 g hg).2⟩⟩⟩
              · rename_i hj
                rw [if_neg hj] at hu
                obtain ⟨u', p1, p2⟩ := hr.get j d hd
                rw [p1] at hu; injection hu with hu; subst hu
                exact p2.rename fun g p ho => by obtain ⟨_, _, q, _⟩ := ho; cases q)
            exact ⟨us, by simp only [List.map_cons]; rw [hfs]; exact q1, q2, .inl rfl⟩
          · cases e
        · cases e
      · rename_i hn
        have hn : hasOwn v = false := by simpa using hn
        split at e
        · rename_i cs hf
          split at e
          · rename_i hc
            obtain ⟨hcl, hoff⟩ := hc
            have hrep := flat_any hf hn hv' (bOwn ow k) off
            have hsz : vs.size = cells.length := by simpa using hlen
            have hvsz : (a.eval x).cells.size = z := by have := hrep.length; simp at this; omega
            have hfs := fill_splice (P := C.P) (place := (pl[·]?)) hpl hvsz (cells := vs) (by omega) (rest.map fun p => (p.1, a.eval p.2))
            obtain ⟨us, q1, q2, q3⟩ := fillD_ok r rest _ _ res k' (vs.toList.take off ++ (a.eval x).cells.toList ++ vs.toList.drop (off + z)).toArray e (by
              refine RepDs.of_get (by simp [hvsz]; omega) fun j d u hd hu => ?_
              rw [splice3_get cells cs off z hcl hoff j] at hd
              have hu : (vs.toList.take off ++ (a.eval x).cells.toList ++ vs.toList.drop (off + z))[j]? = some u := hu
              rw [splice3_get vs.toList _ off z (by simpa using hvsz) (by simp; omega) j] at hu
              split at hd
              · rename_i hj
                rw [if_pos hj] at hu
                obtain ⟨u', p1, p2⟩ := hrep.get _ d hd
                rw [p1] at hu; injection hu with hu; subst hu
                have e3 : off + (j - off) = 0 + j := by omega
                rw [e3] at p2
                exact p2
              · rename_i hj
                rw [if_neg hj] at hu
                obtain ⟨u', p1, p2⟩ := hr.get j d hd
                rw [p1] at hu; injection hu with hu; subst hu
                exact p2)
            exact ⟨us, by simp only [List.map_cons]; rw [hfs]; exact q1, q2, q3⟩
          · cases e
        · cases e
    · cases e
def mvBuild (t d off : Nat) : Pos → Pos
  | .tmp [i] => if i = t then .tmp [d, off] else .tmp [i]
  | x => x
theorem buildD_ok {C w0 h0 ow0 r0 n o t} {parts : Array (Nat × Operand)} {s s'} (hop : o.op = .build t parts) (hd : dstOk n o.dst = true) (e : buildD C.P o t parts.toList s = some s') : StepOK C w0 h0 ow0 r0 n o s s' := by
  intro a w h ow ρ r K Q hK
  unfold buildD at e
  split at e
  · rename_i d pl zc hdst hpl hzc
    obtain ⟨zv, hzv, hzr⟩ := zeroCellsT_rep hzc
    have hst : ∃ fs, C.P.underlying t = some (.struct fs) ∧ tplacesL C.P fs.toList = some pl := by
      unfold tplaces at hpl
      split at hpl
      · rename_i fs h1; exact ⟨fs, h1, hpl⟩
      · cases hpl
    obtain ⟨fs, hu, hplL⟩ := hst
    have hplaces : (fs.mapM fun f => (do pure (f.offset, ← sizeOf f.type) : Sem (Nat × Nat))).run C.P w = .ok pl.toArray w := by
      have e1 : (fs.mapM fun f => (do pure (f.offset, ← sizeOf f.type) : Sem (Nat × Nat))) = List.toArray <$> fs.toList.mapM fun f => (do pure (f.offset, ← sizeOf f.type) : Sem (Nat × Nat)) := by
        rw [Array.mapM_eq_mapM_toList]
      rw [e1, Sem.run_map, tplacesL_run hplL w, Result.andThen_ok]
    have hget : (fun i : Nat => pl.toArray[i]?) = (fun i : Nat => pl[i]?) := by funext i; simp
    have hparts : (parts.map fun (i, x) => (i, a.eval x)).toList = parts.toList.map fun p => (p.1, a.eval p.2) := by rw [Array.toList_map]
    have run : ∀ us, Instr.fill (pl[·]?) zv.cells (parts.toList.map fun p => (p.1, a.eval p.2)) = some us → (execOp a.eval o).run C.P w = .ok (.value (.agg us)) w := by
      intro us q
      simp only [execOp, hop, Instr.build, Sem.run_bind, tzero_spec hzv, Result.andThen_ok, run_underlying hu, hplaces]
      rw [hparts, hget, q]
      simp only [Sem.run_pure, Result.andThen_ok]
    split at e
    · rename_i cells hfill
      injection e with e; subst e
      obtain ⟨us, q1, q2, q3⟩ := fillD_ok r parts.toList zc none cells none zv.cells hfill (hzr _)
      unfold Oper.wp
      rw [run us q1]
      refine hK _ _ _ _ _ (r.put _ (by rw [← hdst]; exact hd) fun O => ?_) |> fun x => by rw [← hdst] at x; exact x
      simp only [RepD]
      exact ⟨us, rfl, RepDs.wk (coerT_wk _ _ _) (q2.rename fun g p ho => by obtain ⟨_, _, q, _⟩ := ho; cases q)⟩
    · rename_i cells ts off hfill
      injection e with e; subst e
      obtain ⟨us, q1, q2, q3⟩ := fillD_ok r parts.toList zc none cells _ zv.cells hfill (hzr _)
      unfold Oper.wp
      rw [run us q1]
      show K (a.put o.dst (.agg us)) w
      rw [hdst] at hd ⊢
      simp only [dstOk, decide_eq_true_eq] at hd
      have hd' : d < a.tmps.size := by rw [r.size]; exact hd
      refine hK _ _ h (fun g => (ow g).map (mvBuild ts d off)) ρ ?_
      have hcell : ∀ g p, ow g = some (.cell p) → (ow g).map (mvBuild ts d off) = some (.cell p) := fun g p hg => by simp [hg, mvBuild]
      refine r.names _ _ _ (fun g hg => by simp [hg]) (fun g hg e => hg (by simp [e])) (fun g i hg => by simp [hg, mvBuild]) rfl hcell r.defers
        (by simpa [Act.put] using r.size) (fun i hi => ?_) (fun i => ?_)
      · simp only [St.put]
        rw [if_neg (fun e => by rw [e] at hi; exact absurd hi (Nat.not_le_of_gt hd))]
        split
        · rfl
        · exact r.dom i hi
      · rw [getD_put a d _ i hd']
        simp only [St.put]
        by_cases hid : i = d
        · rw [if_pos hid, if_pos hid]
          simp only [RepD]
          refine ⟨us, rfl, RepDs.wk (coerT_wk _ _ _) (q2.rename fun g p ho => ?_)⟩
          obtain ⟨t', off', k1, k2, k3⟩ := ho
          injection k1 with k1; injection k1 with k1 k4; subst k1; subst k4
          simp [k3, mvBuild, hid, k2]
        · rw [if_neg hid, if_neg hid]
          by_cases hit : i = ts
          · rw [if_pos hit]; simp only [RepD]
          · rw [if_neg hit]
            refine (r.tm i).rename fun g p ho => ?_
            rw [ho]
            cases p with
            | nil => simp [mvBuild, hit]
            | cons x xs => simp [mvBuild]
    · cases e
  · cases e
def nilC : Operand → Bool
  | .const (.slice none 0 0) => true
  | _ => false
def flatArg (P : Program) (c : Call) : Bool := match c.argTypes.toList with
  | [t, _] => match tslice P t with
    | some e => match tagg P e with
      | some true => match tflat P e with
        | some ks => ks.all (fun k => k < 3)
        | none => false
      | _ => true
    | none => false
  | _ => false
def needA (P : Program) (s : St) (c : Call) : Bool :=
  match c.args.toList with
  | [x, y] => (match evalD s x with
    | some (.mt _ _) => true
    | some (.arr _ _ _ _) => true
    | some (.cp _ _) => true
    | _ => false) || (match evalD s y with
    | some (.arr _ _ _ _) => true
    | some (.p (.sl _ _)) => nilC x && flatArg P c
    | _ => false)
  | _ => false
def stepD (P : Program) (n : Nat) (tk : Bool) (o : Oper) (s : St) : Option St :=
  if dstOk n o.dst then
    match o.op with
    | .move x => moveD P tk o x s
    | .assign x => moveD P true o x s
    | .alloc t => allocD P o t s
    | .box t x => boxD P o t x s
    | .load t x => loadD P tk o t x s
    | .store t x y => storeD P o t x y s
    | .build t parts => buildD P o t parts.toList s
    | .buildSlice t len parts => buildSliceD P o t len parts.toList s
    | .makeSlice t l c => makeSliceD P o t l c s
    | .call c => match c.callee with
      | .builtin .append => if needA P s c then appendA P o c s else appendD P o c s
      | .builtin .copy => copyD P o c s
      | .builtin .clear => clearD P o c s
      | _ => (callD P (evalD s) c).map (s.put o.dst)
    | op => (pureD P (evalD s) op).map (s.put o.dst)
  else none
theorem stepD_ok {C w0 h0 ow0 r0 n tk o s s'} (e : stepD C.P n tk o s = some s') : StepOK C w0 h0 ow0 r0 n o s s' := by
  unfold stepD at e
  split at e
  · rename_i hd
    split at e
    · rename_i x hop; exact moveD_ok (.inl hop) hd e
    · rename_i x hop; exact moveD_ok (.inr hop) hd e
    · rename_i t hop; exact allocD_ok hop hd e
    · rename_i t x hop; exact boxD_ok hop hd e
    · rename_i t x hop; exact loadD_ok hop hd e
    · rename_i t x y hop; exact storeD_ok hop e
    · rename_i t parts hop; exact buildD_ok hop hd e
    · rename_i t len parts hop; exact buildSliceD_ok hop hd e
    · rename_i t l c hop; exact makeSliceD_ok hop hd e
    · rename_i c hop
      split at e
      · rename_i hc
        split at e
        · exact appendA_ok hop hc hd e
        · exact appendD_ok hop hd e
      · rename_i hc; exact copyD_ok hop hc hd e
      · rename_i hc; exact clearD_ok hop hc hd e
      · obtain ⟨d, h1, h2⟩ := Option.map_eq_some_iff.1 e
        subst h2
        exact pureStep_ok hd (by rw [hop]; exact h1)
    · obtain ⟨d, h1, h2⟩ := Option.map_eq_some_iff.1 e
      subst h2
      exact pureStep_ok hd h1
  · cases e
end Go.Proofs.Dm

set_option linter.unusedVariables false
set_option linter.unusedSimpArgs false
namespace Go.Proofs.Dm
open Go Go.RowKit
mutual
def mapRef (f : Nat → Nat) : DV → DV
  | .ref i o => .ref (f i) o
  | .arr i o z n => .arr (f i) o z n
  | .bn i T n => .bn (f i) T n
  | .agg cs => .agg (mapRefs f cs)
  | .tup cs => .tup (mapRefs f cs)
  | .fn g cs => .fn g (mapRefs f cs)
  | d => d
def mapRefs (f : Nat → Nat) : List DV → List DV
  | [] => []
  | d :: ds => mapRef f d :: mapRefs f ds
end
mutual
def refsD : DV → List Nat
  | .ref i _ => [i]
  | .arr i _ _ _ => [i]
  | .bn i _ _ => [i]
  | .agg cs => refsDs cs
  | .tup cs => refsDs cs
  | .fn _ cs => refsDs cs
  | _ => []
def refsDs : List DV → List Nat
  | [] => []
  | d :: ds => refsD d ++ refsDs ds
end
mutual
theorem RepD.mapRef {w h ρ ρ'} (f : Nat → Nat) : ∀ (d : DV) (O : Nat → List Nat → Prop) (v : Value), (∀ i ∈ refsD d, ρ'[f i]? = ρ[i]?) → RepD w h ρ d O v → RepD w h ρ' (Dm.mapRef f d) O v
  | .ref i o, O, v, q, r => by
    simp only [RepD, Dm.mapRef] at r ⊢
    obtain ⟨b, hb, hv⟩ := r
    exact ⟨b, by rw [q i (by simp [refsD])]; exact hb, hv⟩
  | .agg cs, O, v, q, r => by
    simp only [RepD, Dm.mapRef] at r ⊢
    obtain ⟨vs, hv, hr⟩ := r
    exact ⟨vs, hv, RepDs.mapRefs f cs O 0 _ (fun i hi => q i (by simpa only [refsD] using hi)) hr⟩
  | .tup cs, O, v, q, r => by
    simp only [RepD, Dm.mapRef] at r ⊢
    obtain ⟨vs, hv, hr⟩ := r
    exact ⟨vs, hv, RepDs.mapRefs f cs O 0 _ (fun i hi => q i (by simpa only [refsD] using hi)) hr⟩
  | .fn g cs, O, v, q, r => by
    simp only [RepD, Dm.mapRef] at r ⊢
    obtain ⟨vs, hv, hr⟩ := r
    exact ⟨vs, hv, RepDs.mapRefs f cs O 0 _ (fun i hi => q i (by simpa only [refsD] using hi)) hr⟩
  | .p x, O, v, q, r => by simpa only [RepD, Dm.mapRef] using r
  | .nil, O, v, q, r => by simpa only [RepD, Dm.mapRef] using r
  | .own e z xs, O, v, q, r => by simpa only [RepD, Dm.mapRef] using r
  | .fr cs, O, v, q, r => by simpa only [RepD, Dm.mapRef] using r
  | .un, O, v, q, r => by simp only [RepD, Dm.mapRef]
  | .ud, O, v, q, r => by simpa only [RepD, Dm.mapRef] using r
  | .arr i o z n, O, v, q, r => by
    simp only [RepD, Dm.mapRef] at r ⊢
    obtain ⟨b, hb, hv⟩ := r
    exact ⟨b, by rw [q i (by simp [refsD])]; exact hb, hv⟩
  | .cp z xs, O, v, q, r => by simpa only [RepD, Dm.mapRef] using r
  | .mt e z, O, v, q, r => by simpa only [RepD, Dm.mapRef] using r
  | .bn i T n, O, v, q, r => by
    simp only [RepD, Dm.mapRef] at r ⊢
    obtain ⟨hv, b, cs, t, hb, hc⟩ := r
    exact ⟨hv, b, cs, t, by rw [q i (by simp [refsD])]; exact hb, hc⟩
theorem RepDs.mapRefs {w h ρ ρ'} (f : Nat → Nat) : ∀ (ds : List DV) (O : Nat → List Nat → Prop) (k : Nat) (vs : List Value), (∀ i ∈ refsDs ds, ρ'[f i]? = ρ[i]?) → RepDs w h ρ ds O k vs → RepDs w h ρ' (Dm.mapRefs f ds) O k vs
  | [], O, k, vs, q, r => by simpa only [RepDs, Dm.mapRefs] using r
  | d :: ds, O, k, vs, q, r => by
    simp only [RepDs, Dm.mapRefs] at r ⊢
    obtain ⟨v, rest, hv, h1, h2⟩ := r
    exact ⟨v, rest, hv, RepD.mapRef f d _ v (fun i hi => q i (by simp [refsDs, hi])) h1, RepDs.mapRefs f ds O (k + 1) rest (fun i hi => q i (by simp [refsDs, hi])) h2⟩
end
mutual
theorem RepD.refs_ok {w h ρ} : ∀ (d : DV) (O : Nat → List Nat → Prop) (v : Value), RepD w h ρ d O v → ∀ i ∈ refsD d, ∃ b, ρ[i]? = some b
  | .ref j o, O, v, r, i, hi => by
    simp only [refsD, List.mem_singleton] at hi
    subst hi
    simp only [RepD] at r
    obtain ⟨b, hb, _⟩ := r
    exact ⟨b, hb⟩
  | .agg cs, O, v, r, i, hi => by simp only [RepD] at r; obtain ⟨vs, _, hr⟩ := r; exact RepDs.refs_ok cs _ _ _ hr i (by simpa only [refsD] using hi)
  | .tup cs, O, v, r, i, hi => by simp only [RepD] at r; obtain ⟨vs, _, hr⟩ := r; exact RepDs.refs_ok cs _ _ _ hr i (by simpa only [refsD] using hi)
  | .fn g cs, O, v, r, i, hi => by simp only [RepD] at r; obtain ⟨vs, _, hr⟩ := r; exact RepDs.refs_ok cs _ _ _ hr i (by simpa only [refsD] using hi)
  | .p x, O, v, r, i, hi => by simp [refsD] at hi
  | .nil, O, v, r, i, hi => by simp [refsD] at hi
  | .own e z xs, O, v, r, i, hi => by simp [refsD] at hi
  | .fr cs, O, v, r, i, hi => by simp [refsD] at hi
  | .un, O, v, r, i, hi => by simp [refsD] at hi
  | .ud, O, v, r, i, hi => by simp [refsD] at hi
  | .arr j o z n, O, v, r, i, hi => by
    simp only [refsD, List.mem_singleton] at hi
    subst hi
    simp only [RepD] at r
    obtain ⟨b, hb, _⟩ := r
    exact ⟨b, hb⟩
  | .cp z xs, O, v, r, i, hi => by simp [refsD] at hi
  | .mt e z, O, v, r, i, hi => by simp [refsD] at hi
  | .bn j T n, O, v, r, i, hi => by
    simp only [refsD, List.mem_singleton] at hi
    subst hi
    simp only [RepD] at r
    obtain ⟨_, b, _, _, hb, _⟩ := r
    exact ⟨b, hb⟩
theorem RepDs.refs_ok {w h ρ} : ∀ (ds : List DV) (O : Nat → List Nat → Prop) (k : Nat) (vs : List Value), RepDs w h ρ ds O k vs → ∀ i ∈ refsDs ds, ∃ b, ρ[i]? = some b
  | [], O, k, vs, r, i, hi => by simp [refsDs] at hi
  | d :: ds, O, k, vs, r, i, hi => by
    simp only [RepDs] at r
    obtain ⟨v, rest, rfl, h1, h2⟩ := r
    simp only [refsDs, List.mem_append] at hi
    rcases hi with hi | hi
    · exact RepD.refs_ok d _ _ h1 i hi
    · exact RepDs.refs_ok ds _ _ _ h2 i hi
end
def DCalls (C : Ctx) (f : FuncId) (args : List DV) (bs : List (List DV)) (r : DV) (bs' : List (List DV)) : Prop :=
  (∃ fn, C.P.funcs[f]? = some fn ∧ (fn.name == "runtime.NumGoroutine") = false ∧ fn.body.isNone = false) ∧
  ∀ w h ow ρ vs, RepDs w h ρ args (fun g p => ow g = some (.tmp p)) 0 vs → HR w h ρ ow bs → Glob C w ow →
    Calls C.P f vs.toArray w fun e w' => ∃ v h' ow' ex, e = .returned v ∧ Fr w h ow w' h' ow' ∧ HR w' h' (ρ ++ ex) ow' bs' ∧ RepD w' h' (ρ ++ ex) r (fun g p => ow' g = some (.res p)) v
theorem DCalls.wk {C f args bs r bs'} (d : DCalls C f args bs r bs') {args0 r'} (ka : Wks args0 args) (kr : Wk r r') : DCalls C f args0 bs r' bs' := by
  refine ⟨d.1, fun w h ow ρ vs ha hb hg => ?_⟩
  refine (d.2 w h ow ρ vs (RepDs.wk ka ha) hb hg).mono fun e w' ⟨v, h', ow', ex, h1, h2, h3, h4⟩ => ⟨v, h', ow', ex, h1, h2, h3, RepD.wk kr h4⟩
def calleeD (s : St) (x : Operand) : Option (FuncId × List DV) :=
  match evalD s x with
  | some (.fn f cap) => some (f, fzs cap)
  | _ => none
def argsD (s : St) (all : List Operand) : List Operand → Option (List DV)
  | [] => some []
  | x :: xs => match evalD s x, argsD s all xs with
    | some d, some ds => some ((if hasOwn d then (match x with
        | .tmp t => if (all.filter fun y => match y with | .tmp u => u == t | _ => false).length = 1 then d else fz d
        | _ => fz d) else d) :: ds)
    | _, _ => none
def given (s : St) : List Operand → List Tmp
  | [] => []
  | .tmp t :: xs => if hasOwn (s.tm t) then t :: given s xs else given s xs
  | _ :: xs => given s xs
def addNew (l : List Nat) : List Nat → List Nat
  | [] => l
  | x :: xs => addNew (if l.contains x then l else l ++ [x]) xs
def boxRefs (hp : List (List DV)) : List Nat → List Nat
  | [] => []
  | i :: is => (match hp[i]? with
    | some b => refsDs b
    | none => []) ++ boxRefs hp is
def reach (hp : List (List DV)) (ds : List DV) : List Nat :=
  let a := addNew [] (refsDs ds)
  let b := addNew a (boxRefs hp a)
  addNew b (boxRefs hp b)
def subHp (hp : List (List DV)) : List Nat → Option (List (List DV))
  | [] => some []
  | i :: is => match hp[i]?, subHp hp is with
    | some b, some bs => some (b :: bs)
    | _, _ => none
def idxIn (ids : List Nat) (i : Nat) : Nat := ids.idxOf i
def backId (ids : List Nat) (n m : Nat) (j : Nat) : Nat := match ids[j]? with
  | some i => i
  | none => if j < m then n + (j - ids.length) else 0
def writeBack (hp : List (List DV)) : List Nat → List (List DV) → List (List DV)
  | i :: is, b :: bs => writeBack (hp.set i b) is bs
  | _, bs => hp ++ bs
def St.kills (s : St) (ts : List Tmp) : St := { s with tm := fun i => if ts.contains i then .un else s.tm i }
def afterCall (s : St) (dst : Option Tmp) (gone : List Tmp) (ids : List Nat) (r : DV) (bs' : List (List DV)) : St :=
  ({ s.kills gone with hp := writeBack s.hp ids (bs'.map (mapRefs (backId ids s.hp.length bs'.length))) } : St).put dst (mapRef (backId ids s.hp.length bs'.length) r)
def closedIn (ids : List Nat) (l : List Nat) : Bool := l.all fun i => ids.contains i
def callTo (C : Ctx) (n : Nat) (o : Oper) (c : Call) (x : Operand) (s s' : St) : Prop :=
  dstOk n o.dst = true ∧ ∃ f cap ds sub args r bs', calleeD s x = some (f, cap) ∧ argsD s c.args.toList c.args.toList = some ds ∧
    subHp s.hp (reach s.hp (ds ++ cap)) = some sub ∧ closedIn (reach s.hp (ds ++ cap)) (boxRefs s.hp (reach s.hp (ds ++ cap))) = true ∧ (reach s.hp (ds ++ cap)).Nodup ∧
    Wks (mapRefs (idxIn (reach s.hp (ds ++ cap))) (ds ++ cap)) args ∧ DCalls C f args (sub.map (mapRefs (idxIn (reach s.hp (ds ++ cap))))) r bs' ∧
    s' = afterCall s o.dst (given s c.args.toList) (reach s.hp (ds ++ cap)) r bs'
theorem subHp_spec {hp : List (List DV)} : ∀ {ids : List Nat} {sub : List (List DV)}, subHp hp ids = some sub → sub.length = ids.length ∧ ∀ (j i : Nat), ids[j]? = some i → ∃ b : List DV, hp[i]? = some b ∧ sub[j]? = some b
  | [], sub, e => by simp only [subHp, Option.some.injEq] at e; subst e; simp
  | i :: is, sub, e => by
    simp only [subHp] at e
    split at e
    · rename_i b bs h1 h2
      injection e with e; subst e
      obtain ⟨q1, q2⟩ := subHp_spec h2
      refine ⟨by simp [q1], fun j i' hj => ?_⟩
      cases j with
      | zero => simp at hj; subst hj; exact ⟨b, h1, by simp⟩
      | succ j => simp at hj; obtain ⟨b', p1, p2⟩ := q2 j i' hj; exact ⟨b', p1, by simpa using p2⟩
    · cases e
theorem boxRefs_spec {hp : List (List DV)} : ∀ {ids : List Nat} {i : Nat} {b : List DV}, i ∈ ids → hp[i]? = some b → ∀ j ∈ refsDs b, j ∈ boxRefs hp ids
  | [], i, b, hi, _, j, hj => by simp at hi
  | x :: xs, i, b, hi, hb, j, hj => by
    simp only [boxRefs, List.mem_append]
    rcases List.mem_cons.1 hi with e | e
    · subst e; rw [hb]; exact .inl hj
    · exact .inr (boxRefs_spec e hb j hj)
theorem addNew_mem : ∀ {xs l : List Nat} {i : Nat}, (i ∈ l ∨ i ∈ xs) → i ∈ addNew l xs
  | [], l, i, h => by simpa [addNew] using h
  | x :: xs, l, i, h => by
    simp only [addNew]
    apply addNew_mem
    rcases h with h | h
    · left; split
      · exact h
      · simp [h]
    · rcases List.mem_cons.1 h with e | e
      · left; subst e; split
        · rename_i hc; simpa using hc
        · simp
      · right; exact e
theorem reach_mem {hp : List (List DV)} {ds : List DV} {i : Nat} (h : i ∈ refsDs ds) : i ∈ reach hp ds := by
  unfold reach
  exact addNew_mem (.inl (addNew_mem (.inl (addNew_mem (.inr h)))))
theorem refsDs_append : ∀ (a b : List DV), refsDs (a ++ b) = refsDs a ++ refsDs b
  | [], b => rfl
  | d :: a, b => by simp [refsDs, refsDs_append a b]
theorem idx_get {ids : List Nat} {i : Nat} (h : i ∈ ids) : ids[idxIn ids i]? = some i := by
  unfold idxIn
  rw [List.getElem?_eq_getElem (List.idxOf_lt_length_of_mem h), List.getElem_idxOf]
end Go.Proofs.Dm
