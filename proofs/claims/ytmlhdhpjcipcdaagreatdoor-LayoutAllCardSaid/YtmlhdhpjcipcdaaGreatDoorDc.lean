/- Part of the proof: contracts of the functions, walked by the D-machine. No condition. -/
import Derived.Test.YtmlhdhpjcipcdaaGreatDoorDb
import Derived.Lib.AppendStr
set_option linter.unusedVariables false
set_option linter.unusedSimpArgs false
namespace Go.Proofs.Dm
open Go Go.RowKit
def tcellsF (P : Program) : Nat → TypeId → List TypeId
  | 0, t => [t]
  | k + 1, t => match P.underlying t with
    | some (.struct fs) => fs.toList.flatMap fun f => tcellsF P k f.type
    | _ => [t]
def tcells (P : Program) (t : TypeId) : List TypeId := tcellsF P 6 t
def tzero (P : Program) (t : TypeId) : Option Value := (P.info? t).bind (·.zero)
theorem tzero_spec {P t z} (e : tzero P t = some z) (w : World) : (zeroValue t).run P w = .ok z w := by
  obtain ⟨i, h1, h2⟩ := Option.bind_eq_some_iff.1 e
  simp [zeroValue, typeInfo, program, Sem.run, h1, h2]
def coerCells (P : Program) : List TypeId → List DV → List DV
  | t :: ts, d :: ds => coerD P t d :: coerCells P ts ds
  | _, ds => ds
theorem coerCells_wk (P : Program) : ∀ (ts : List TypeId) (ds : List DV), Wks ds (coerCells P ts ds)
  | [], ds => by
    have : ∀ ds : List DV, Wks ds ds := fun ds => by
      induction ds with
      | nil => exact .nil
      | cons d ds ih => exact .cons (.refl d) ih
    simpa only [coerCells] using this ds
  | t :: ts, [] => by simp only [coerCells]; exact .nil
  | t :: ts, d :: ds => by simp only [coerCells]; exact .cons (coerD_wk P t d) (coerCells_wk P ts ds)
theorem coerCells_len (P : Program) : ∀ (ts : List TypeId) (ds : List DV), (coerCells P ts ds).length = ds.length
  | [], ds => by simp only [coerCells]
  | t :: ts, [] => by simp only [coerCells]
  | t :: ts, d :: ds => by simp only [coerCells, List.length_cons, coerCells_len P ts ds]
def flat : DV → Option (List DV)
  | .agg cs => some cs
  | d => if solid d then some [d] else none
def isAggD : DV → Bool
  | .agg _ => true
  | _ => false
theorem flat_rep {w h ρ d O v cs} (e : flat d = some cs) (r : RepD w h ρ d O v) :
    ∃ O', RepDs w h ρ cs O' 0 v.cells.toList ∧ ∀ g k p, O' g (k :: p) → O g (if isAggD d then k :: p else p) := by
  cases d with
  | agg ds =>
    simp only [flat, Option.some.injEq] at e; subst e
    simp only [RepD] at r
    obtain ⟨vs, rfl, hr⟩ := r
    exact ⟨O, by simpa only [Value.cells] using hr, fun g k p h => by simpa [isAggD] using h⟩
  | _ =>
    simp only [flat] at e
    split at e
    · rename_i hs
      injection e with e; subst e
      have h1 := solid_one hs r
      have h2 : v.cells = #[v] := by cases v <;> first | rfl | (simp [Value.oneCell'] at h1)
      refine ⟨fun g q => O g (q.drop 1), ?_, fun g k p h => by simpa [isAggD] using h⟩
      rw [h2]
      simp only [RepDs]
      exact ⟨v, [], rfl, by simpa using r, rfl⟩
    · cases e
def zeroCells (P : Program) (t : TypeId) : Option (List DV) :=
  match tzero P t with
  | some z => match constD z with
    | some d => (flat d).map (coerCells P (tcells P t))
    | none => none
  | none => none
def tptr (P : Program) (t : TypeId) : Bool := P.types.toList.any fun i => match i.desc with
  | .pointer e => e == t
  | _ => false
def coerT (P : Program) (t : TypeId) (ds : List DV) : List DV := if tptr P t then ds else coerCells P (tcells P t) ds
theorem coerT_wk (P : Program) (t : TypeId) (ds : List DV) : Wks ds (coerT P t ds) := by
  unfold coerT
  split
  · induction ds with
    | nil => exact .nil
    | cons d ds ih => exact .cons (.refl d) ih
  · exact coerCells_wk _ _ _
def zeroCellsT (P : Program) (t : TypeId) : Option (List DV) :=
  match tzero P t with
  | some z => match constD z with
    | some d => (flat d).map (coerT P t)
    | none => none
  | none => none
def allocD (P : Program) (o : Oper) (t : TypeId) (s : St) : Option St :=
  match o.dst, zeroCells P t with
  | some d, some box => some { s.put (some d) (.ref s.hp.length 0) with hp := s.hp ++ [box] }
  | _, _ => none
theorem allocD_ok {C w0 h0 ow0 r0 n o t s s'} (hop : o.op = .alloc t) (hd : dstOk n o.dst = true) (e : allocD C.P o t s = some s') : StepOK C w0 h0 ow0 r0 n o s s' := by
  intro a w h ow ρ r K Q hK
  unfold allocD at e
  split at e
  · rename_i d box hdst hz
    injection e with e; subst e
    unfold zeroCells at hz
    split at hz
    · rename_i z hz1
      split at hz
      · rename_i dz hz2
        obtain ⟨cs, hf, hc⟩ := Option.map_eq_some_iff.1 hz
        subst hc
        have hrep : ∀ O, RepD w h ρ dz O z := fun O => constD_rep hz2
        have hrun : (execOp a.eval o).run C.P w = .ok (.value (.pointer (some ⟨w.heap.size, 0, none⟩))) (w.alloc (.cells z.cells t)) := by
          simp only [execOp, hop, Instr.alloc, Sem.run_bind, tzero_spec hz1, Result.andThen_ok, newVar, newRow, newObj, Sem.run, Sem.run_pure]
          rfl
        unfold Oper.wp
        rw [hrun]
        show K (a.put o.dst _) _
        rw [hdst]
        rw [hdst] at hd
        refine hK _ _ h (fun g => if g = w.heap.size then some (.box ρ.length) else ow g) (ρ ++ [w.heap.size]) ?_
        refine r.newBox d (by simpa [dstOk] using hd) (coerCells C.P (tcells C.P t) cs) z.cells t fun O k => RepDs.takeAll (RepDs.wk (coerCells_wk _ _ _) ?_)
        obtain ⟨O', hr, _⟩ := flat_rep hf (hrep (fun _ _ => False))
        rename_i hO'
        exact RepDs.step (Stable.refl w h) (fun _ _ h => h) cs (fun _ _ => False) O k _ (fun _ _ hf => hf.elim) (by
          obtain ⟨O2, hr2, hO2⟩ := flat_rep hf (hrep (fun _ _ => False))
          refine RepDs.of_get hr2.length fun i d v hd hv => ?_
          obtain ⟨v', h1, h2⟩ := hr2.get i d hd
          rw [h1] at hv; injection hv with hv; subst hv
          exact h2.rename fun g p hg => by simpa using hO2 g (0 + i) p hg)
      · cases hz
    · cases hz
  · cases e
def tbuild (P : Program) (t : TypeId) : Option Nat := match P.underlying t with
  | some (.struct fs) => (fs.toList.find? fun f => ((P.info? f.type).map (·.str)) == some "strings.Builder").map (·.offset)
  | _ => none
def patchB (P : Program) (t : TypeId) (id : Nat) (box : List DV) : List DV := match tbuild P t with
  | some off => (match box[off]? with
    | some (.p .nilp) => box.set off (.bn id t box.length)
    | _ => box)
  | none => box
theorem Rel.patch {C w0 h0 ow0 r0 n s a w h ow ρ} (r : Rel C w0 h0 ow0 r0 n s a w h ow ρ) {id b off T : Nat} {box : List DV} {cs : Array Value} {f : Nat × Nat} (hb : s.hp[id]? = some box) (hρ : ρ[id]? = some b)
    (hh : w.heap[b]? = some (.cells cs T f)) (hc : box[off]? = some (.p .nilp)) : Rel C w0 h0 ow0 r0 n { s with hp := s.hp.set id (box.set off (.bn id T cs.size)) } a w h ow ρ := by
  refine ⟨r.glob, r.fr, ⟨by simpa using r.hr.len, fun i bx b' h1 h2 hne => ?_, r.hr.lt, r.hr.hz⟩, r.defers, r.size, r.tm, r.dom, r.pre⟩
  by_cases hi : i = id
  · subst hi
    have hlt : i < s.hp.length := (List.getElem?_eq_some_iff.1 hb).1
    have h1 : (s.hp.set i (box.set off (.bn i T cs.size)))[i]? = some bx := h1
    rw [List.getElem?_set_self hlt] at h1
    injection h1 with h1; subst h1
    have hbe : box ≠ [] := by rintro rfl; simp at hc
    obtain ⟨p1, p2, cs', T', q1, q2, q3⟩ := r.hr.box i box b' hb h2 hbe
    refine ⟨p1, p2, cs', T', q1, by simpa using q2, ?_⟩
    have hl := q3.length
    refine RepDs.of_get (by simpa using hl) fun j d v hd hv => ?_
    rw [List.length_set] at hv
    by_cases hj : j = off
    · subst hj
      have hjl : j < box.length := (List.getElem?_eq_some_iff.1 hc).1
      rw [List.getElem?_set_self hjl] at hd
      injection hd with hd; subst hd
      obtain ⟨v', k1, k2⟩ := q3.get j _ hc
      rw [k1] at hv; injection hv with hv; subst hv
      simp only [RepD, Rep] at k2 ⊢
      exact ⟨k2, b, cs, f, hρ, hh, rfl⟩
    · rw [List.getElem?_set_ne (fun e => hj e.symm)] at hd
      obtain ⟨v', k1, k2⟩ := q3.get j d hd
      rw [k1] at hv; injection hv with hv; subst hv
      exact k2
  · have h1 : (s.hp.set id (box.set off (.bn id T cs.size)))[i]? = some bx := h1
    rw [List.getElem?_set_ne (fun e => hi e.symm)] at h1
    exact r.hr.box i bx b' h1 h2 hne
def boxD (P : Program) (o : Oper) (t : TypeId) (x : Operand) (s : St) : Option St :=
  match o.dst, evalD s x with
  | some d, some v => match flat v with
    | some cs => some { s.put (some d) (.ref s.hp.length 0) with hp := s.hp ++ [patchB P t s.hp.length (coerCells P (tcells P t) (fzs cs))] }
    | none => none
  | _, _ => none
theorem boxD_ok {C w0 h0 ow0 r0 n o t x s s'} (hop : o.op = .box t x) (hd : dstOk n o.dst = true) (e : boxD C.P o t x s = some s') : StepOK C w0 h0 ow0 r0 n o s s' := by
  intro a w h ow ρ r K Q hK
  unfold boxD at e
  split at e
  · rename_i d v hdst hv
    split at e
    · rename_i cs hf
      injection e with e; subst e
      have hrun : (execOp a.eval o).run C.P w = .ok (.value (.pointer (some ⟨w.heap.size, 0, none⟩))) (w.alloc (.cells (a.eval x).cells t)) := by
        simp only [execOp, hop, Instr.box, Sem.run_bind, Result.andThen_ok, newVar, newRow, newObj, Sem.run, Sem.run_pure]
        rfl
      unfold Oper.wp
      rw [hrun]
      show K (a.put o.dst _) _
      rw [hdst]
      rw [hdst] at hd
      refine hK _ _ h (fun g => if g = w.heap.size then some (.box ρ.length) else ow g) (ρ ++ [w.heap.size]) ?_
      obtain ⟨O', hr, _⟩ := flat_rep hf (evalD_rep r hv)
      have hrep : ∀ O k, RepDs w h ρ (coerCells C.P (tcells C.P t) (fzs cs)) O k (a.eval x).cells.toList := fun O k => RepDs.wk (coerCells_wk _ _ _) (hr.fz_any O k)
      have hsz := (hrep (fun _ _ => False) 0).length
      have rn := r.newBox d (by simpa [dstOk] using hd) _ (a.eval x).cells t fun O k => RepDs.takeAll (hrep O k)
      unfold patchB
      split
      · rename_i off ho
        split
        · rename_i hc
          have hp := rn.patch (id := s.hp.length) (b := w.heap.size) (T := t) (by simp) (by rw [r.hr.len]; simp) (heap_alloc_new w _) hc
          have e1 : ((s.hp ++ [coerCells C.P (tcells C.P t) (fzs cs)]).set s.hp.length ((coerCells C.P (tcells C.P t) (fzs cs)).set off (.bn s.hp.length t (a.eval x).cells.size))) = s.hp ++ [(coerCells C.P (tcells C.P t) (fzs cs)).set off (.bn s.hp.length t (coerCells C.P (tcells C.P t) (fzs cs)).length)] := by
            rw [List.set_append_right _ _ (Nat.le_refl _), Nat.sub_self]
            have e2 : (a.eval x).cells.size = (coerCells C.P (tcells C.P t) (fzs cs)).length := by simpa using hsz
            rw [e2]; rfl
          simp only [e1] at hp
          exact hp
        · exact rn
      · exact rn
    · cases e
  · cases e
def deown : DV → DV := fun d => if hasOwn d then .un else d
def asVal (g : Bool) (cs : List DV) : Option DV :=
  if g then some (.agg cs) else match cs with
    | [c] => some c
    | _ => none
def loadD (P : Program) (tk : Bool) (o : Oper) (t : TypeId) (x : Operand) (s : St) : Option St :=
  match tsz P t, tagg P t with
  | some z, some g => match evalD s x with
    | some (.ref id off) => match s.hp[id]? with
      | some box => if off + z ≤ box.length ∧ box ≠ [] then
          (if tk && hasOwns ((box.drop off).take z) then
            (match o.dst, asVal g ((box.drop off).take z) with
             | some d, some v => some { s.put (some d) v with hp := s.hp.set id (box.take off ++ ((box.drop off).take z).map deown ++ box.drop (off + z)) }
             | _, _ => none)
           else (asVal g (fzs ((box.drop off).take z))).map (s.put o.dst)) else none
      | none => none
    | some (.fr cs) => if z ≤ cs.length then (asVal g ((cs.take z).map .p)).map (s.put o.dst) else none
    | _ => none
  | _, _ => none
theorem load_run {P : Program} {t z g} (hz : tsz P t = some z) (hg : tagg P t = some g) (b off : Nat) (w : World) (vs : List Value) (hl : vs.length = z)
    (hc : ∀ j v, vs[j]? = some v → w.cell? ⟨b, off + j, none⟩ = some v) (v : Value) (hv : (g = true ∧ v = .agg vs.toArray) ∨ (g = false ∧ vs = [v])) :
    (Instr.loadAt t (.pointer (some ⟨b, off, none⟩))).run P w = .ok v w := by
  rcases hv with ⟨rfl, rfl⟩ | ⟨rfl, rfl⟩
  · have := run_loadCells_list (P := P) w ⟨b, off, none⟩ vs (fun j v hj => by rw [addr_add]; exact hc j v hj)
    rw [hl] at this
    simp only [Instr.loadAt, Instr.sureAddr, loadVar, Sem.run_bind, Sem.run_pure, Result.andThen_ok, tagg_spec hg, if_true, tsz_spec hz, this]
  · have := hc 0 v (by simp)
    simp only [Nat.add_zero] at this
    simp only [Instr.loadAt, Instr.sureAddr, loadVar, Sem.run_bind, Sem.run_pure, Result.andThen_ok, tagg_spec hg, Bool.false_eq_true, if_false, load, Sem.run, this]
theorem asVal_rep {w h ρ g cs O vs d} (e : asVal g cs = some d) (r : RepDs w h ρ cs O 0 vs) (O' : Nat → List Nat → Prop)
    (hO : ∀ q k p, O q (k :: p) → O' q (if g then k :: p else p)) : ∃ v, ((g = true ∧ v = .agg vs.toArray) ∨ (g = false ∧ vs = [v])) ∧ RepD w h ρ d O' v := by
  unfold asVal at e
  split at e
  · rename_i hg
    subst hg
    injection e with e; subst e
    refine ⟨_, .inl ⟨rfl, rfl⟩, ?_⟩
    simp only [RepD]
    refine ⟨_, rfl, ?_⟩
    refine RepDs.of_get r.length fun i d v hd hv => ?_
    obtain ⟨v', h1, h2⟩ := r.get i d hd
    have hv' : vs[i]? = some v := hv
    rw [h1] at hv'; injection hv' with hv'; subst hv'
    exact h2.rename fun q p ho => by simpa using hO q _ p ho
  · rename_i hg
    split at e
    · rename_i c
      injection e with e; subst e
      simp only [RepDs] at r
      obtain ⟨v, rest, rfl, h1, rfl⟩ := r
      exact ⟨v, .inr ⟨by simpa using hg, rfl⟩, h1.rename fun q p ho => by simpa [hg] using hO q _ p ho⟩
    · cases e
def mvLoad (id off z d : Nat) (g : Bool) : Pos → Pos
  | .cell (i :: k :: p) => if i = id ∧ off ≤ k ∧ k < off + z then .tmp (d :: (if g then (k - off) :: p else p)) else .cell (i :: k :: p)
  | x => x
theorem RepDs.append {w h ρ} : ∀ {ds es : List DV} {O k vs us}, RepDs w h ρ ds O k vs → RepDs w h ρ es O (k + ds.length) us → RepDs w h ρ (ds ++ es) O k (vs ++ us)
  | [], es, O, k, vs, us, r, q => by simp only [RepDs] at r; subst r; simpa using q
  | d :: ds, es, O, k, vs, us, r, q => by
    simp only [RepDs, List.cons_append] at r ⊢
    obtain ⟨v, rest, rfl, h1, h2⟩ := r
    refine ⟨v, rest ++ us, rfl, h1, RepDs.append h2 ?_⟩
    have e : k + (d :: ds).length = k + 1 + ds.length := by simp; omega
    rw [e] at q; exact q
theorem repDs_part {w h ρ ds O vs} (r : RepDs w h ρ ds O 0 vs) (i j : Nat) : RepDs w h ρ ((ds.drop i).take j) O i ((vs.drop i).take j) := by
  refine RepDs.of_get (by simp [r.length]) fun k d v hd hv => ?_
  rw [List.getElem?_take] at hd hv
  split at hd
  · rename_i hk
    rw [if_pos hk] at hv
    rw [List.getElem?_drop] at hd hv
    obtain ⟨v', h1, h2⟩ := r.get _ d hd
    rw [h1] at hv; injection hv with hv; subst hv
    exact h2.rename fun g p ho => by simpa using ho
  · cases hd
theorem Rel.names' {C w0 h0 ow0 r0 n s a w h ow ρ} (r : Rel C w0 h0 ow0 r0 n s a w h ow ρ) (ow' : Own) (s' : St) (a' : Act)
    (hnone : ∀ g, ow g = none → ow' g = none) (hHR : HR w h ρ ow' s'.hp)
    (hdef : a'.defers = []) (hsize : a'.tmps.size = n) (hdom : ∀ i, n ≤ i → s'.tm i = .un)
    (htm : ∀ i, RepD w h ρ (s'.tm i) (fun g p => ow' g = some (.tmp (i :: p))) (a'.tmps.getD i undef)) :
    Rel C w0 h0 ow0 r0 n s' a' w h ow' ρ := by
  refine ⟨⟨r.glob.nb, fun b hb => ⟨(r.glob.eq b hb).1, hnone b (r.glob.eq b hb).2⟩⟩, ⟨r.fr.st, r.fr.size, r.fr.os, r.fr.tape, r.fr.output, fun b hb ho => ?_⟩, hHR, hdef, hsize, htm, hdom, r.pre⟩
  obtain ⟨p, q, t⟩ := r.fr.keep b hb ho
  exact ⟨p, q, hnone b t⟩
theorem splice_get {α : Type} (f : α → α) (l : List α) (off z : Nat) (hl : off + z ≤ l.length) (i : Nat) :
    (l.take off ++ ((l.drop off).take z).map f ++ l.drop (off + z))[i]? = if off ≤ i ∧ i < off + z then (l[i]?).map f else l[i]? := by
  by_cases h1 : i < off
  · rw [if_neg (by omega), List.append_assoc, List.getElem?_append_left (by simp; omega), List.getElem?_take, if_pos h1]
  · by_cases h2 : i < off + z
    · rw [if_pos ⟨by omega, h2⟩, List.getElem?_append_left (by simp; omega), List.getElem?_append_right (by simp; omega), List.getElem?_map, List.getElem?_take, List.getElem?_drop]
      have e1 : (l.take off).length = off := by simp; omega
      rw [e1, if_pos (by omega)]
      congr 2; omega
    · rw [if_neg (by omega), List.getElem?_append_right (by simp; omega), List.getElem?_drop]
      congr 1
      simp; omega
theorem loadD_ok {C w0 h0 ow0 r0 n tk o t x s s'} (hop : o.op = .load t x) (hd : dstOk n o.dst = true) (e : loadD C.P tk o t x s = some s') : StepOK C w0 h0 ow0 r0 n o s s' := by
  intro a w h ow ρ r K Q hK
  unfold loadD at e
  split at e
  · rename_i z g hz hg
    split at e
    · rename_i id off hx
      split at e
      · rename_i box hb
        split at e
        · rename_i hoff
          have hx' := evalD_rep r hx
          simp only [RepD] at hx'
          obtain ⟨b, hρ, hv⟩ := hx'
          obtain ⟨hoff, hne⟩ := hoff
          obtain ⟨p1, p2, cs, T, hh, hl0, hrr⟩ := r.hr.box id box b hb hρ hne
          have hlen := hrr.length
          have hdt : ((cs.toList.take box.length).drop off).take z = (cs.toList.drop off).take z := by
            rw [List.drop_take, List.take_take]; congr 1; omega
          have hcell : ∀ j u, ((cs.toList.drop off).take z)[j]? = some u → w.cell? ⟨b, off + j, none⟩ = some u := by
            intro j u hj
            rw [List.getElem?_take] at hj
            split at hj
            · rw [List.getElem?_drop, Array.getElem?_toList] at hj
              simp [World.cell?, hh, hj]
            · cases hj
          have hl : ((cs.toList.drop off).take z).length = z := by simp at hlen ⊢; omega
          have hsub := repDs_part hrr off z
          rw [hdt] at hsub
          have hrun : ∀ v, ((g = true ∧ v = .agg ((cs.toList.drop off).take z).toArray) ∨ (g = false ∧ (cs.toList.drop off).take z = [v])) → (execOp a.eval o).run C.P w = .ok (.value v) w := by
            intro v hvv
            simp only [execOp, hop, hv, Sem.run_bind, load_run hz hg b off w _ hl hcell v hvv, Result.andThen_ok, Sem.run_pure]
          split at e
          · split at e
            · rename_i htk d v hdst hav
              injection e with e; subst e
              have hO2 : RepDs w h ρ ((box.drop off).take z) (fun q p => match p with | k :: p' => k < z ∧ ow q = some (.cell (id :: (off + k) :: p')) | [] => False) 0 ((cs.toList.drop off).take z) := by
                refine RepDs.of_get hsub.length fun i d v hd hv => ?_
                obtain ⟨v', h1, h2⟩ := hsub.get i d hd
                rw [h1] at hv; injection hv with hv; subst hv
                have hi : i < z := by
                  have := (List.getElem?_eq_some_iff.1 h1).1
                  rw [hl] at this; exact this
                exact h2.rename fun g p ho => by simpa using ⟨hi, ho⟩
              obtain ⟨u, hu1, hu2⟩ := asVal_rep hav hO2 (fun q p => (ow q).map (mvLoad id off z d g) = some (.tmp (d :: p)))
                (fun q k p ho => by
                  obtain ⟨hk, ho⟩ := ho
                  simp only [ho, Option.map_some, mvLoad]
                  rw [if_pos ⟨trivial, by omega, by omega⟩]
                  simp)
              unfold Oper.wp
              rw [hrun u hu1]
              show K (a.put o.dst u) w
              rw [hdst] at hd ⊢
              simp only [dstOk, decide_eq_true_eq] at hd
              have hd' : d < a.tmps.size := by rw [r.size]; exact hd
              refine hK _ _ _ (fun g' => (ow g').map (mvLoad id off z d g)) ρ (r.names' _ _ _ (fun g hg => by simp [hg]) ?_ r.defers (by simpa [Act.put] using r.size) (fun i hi => ?_) (fun i => ?_))
              · refine ⟨by simp [r.hr.len], fun i bx b' h1 h2 hne' => ?_, fun g' hg' => r.hr.lt g' (fun e => hg' (by simp [e])), r.hr.hz⟩
                simp only [] at h1
                by_cases hi : i = id
                · subst hi
                  rw [hρ] at h2; injection h2 with h2; subst h2
                  have hlt : i < s.hp.length := (List.getElem?_eq_some_iff.1 hb).1
                  rw [List.getElem?_set_self hlt] at h1
                  injection h1 with h1; subst h1
                  have hbl : (box.take off ++ ((box.drop off).take z).map deown ++ box.drop (off + z)).length = box.length := by simp; omega
                  refine ⟨by simp [p1, mvLoad], p2, cs, T, hh, by rw [hbl]; exact hl0, RepDs.of_get (by rw [hbl]; exact hlen) fun k d1 v hd1 hv1 => ?_⟩
                  rw [hbl] at hv1
                  rw [splice_get deown box off z hoff k] at hd1
                  · split at hd1
                    · obtain ⟨d0, hd0, hd00⟩ := Option.map_eq_some_iff.1 hd1
                      subst hd00
                      obtain ⟨v', q1, q2⟩ := hrr.get k d0 hd0
                      rw [q1] at hv1; injection hv1 with hv1; subst hv1
                      unfold deown
                      split
                      · simp only [RepD]
                      · rename_i hno
                        exact RepD.free _ _ _ _ (by simpa using hno) q2
                    · rename_i hk
                      obtain ⟨v', q1, q2⟩ := hrr.get k d1 hd1
                      rw [q1] at hv1; injection hv1 with hv1; subst hv1
                      refine q2.rename fun g' p ho => ?_
                      simp only [Nat.zero_add] at ho ⊢
                      simp only [ho, Option.map_some, mvLoad]
                      rw [if_neg (fun q => hk ⟨q.2.1, q.2.2⟩)]
                · rw [List.getElem?_set_ne (fun e => hi e.symm)] at h1
                  obtain ⟨p1', p2', cs', T', hh', hl', hrr'⟩ := r.hr.box i bx b' h1 h2 hne'
                  refine ⟨by simp [p1', mvLoad], p2', cs', T', hh', hl', RepDs.of_get hrr'.length fun k d1 v hd1 hv1 => ?_⟩
                  obtain ⟨v', q1, q2⟩ := hrr'.get k d1 hd1
                  rw [q1] at hv1; injection hv1 with hv1; subst hv1
                  refine q2.rename fun g' p ho => ?_
                  simp only [ho, Option.map_some, mvLoad]
                  rw [if_neg (fun q => hi q.1)]
              · simp only [St.put]
                rw [if_neg (fun e => by rw [e] at hi; exact absurd hi (Nat.not_le_of_gt hd))]
                exact r.dom i hi
              · rw [getD_put a d _ i hd']
                simp only [St.put]
                by_cases hid : i = d
                · rw [if_pos hid, if_pos hid, hid]; exact hu2
                · rw [if_neg hid, if_neg hid]
                  exact (r.tm i).rename fun g p ho => by simp [ho, mvLoad]
            · cases e
          · obtain ⟨d, h1, h2⟩ := Option.map_eq_some_iff.1 e
            subst h2
            have hany : ∀ O, ∃ v, ((g = true ∧ v = .agg ((cs.toList.drop off).take z).toArray) ∨ (g = false ∧ (cs.toList.drop off).take z = [v])) ∧ RepD w h ρ d O v := fun O =>
              asVal_rep h1 (hsub.fz_any (fun _ _ => False) 0) O (fun _ _ _ hf => hf.elim)
            obtain ⟨v, hvv, _⟩ := hany (fun _ _ => False)
            unfold Oper.wp
            rw [hrun v hvv]
            refine hK _ _ _ _ _ (r.put o.dst hd fun O => ?_)
            obtain ⟨v', hvv', hr⟩ := hany O
            have : v' = v := by
              rcases hvv with ⟨q1, q2⟩ | ⟨q1, q2⟩ <;> rcases hvv' with ⟨q3, q4⟩ | ⟨q3, q4⟩ <;> simp_all
            rw [← this]; exact hr
        · cases e
      · cases e
    · rename_i cs hx
      split at e
      · rename_i hzl
        obtain ⟨d, h1, h2⟩ := Option.map_eq_some_iff.1 e
        subst h2
        have hx' := evalD_rep r hx
        simp only [RepD] at hx'
        obtain ⟨gb, off, hv, hh, hrow⟩ := hx'
        have hget : ∀ j, j < z → ∃ u, w.cell? ⟨gb, off + j, none⟩ = some u ∧ ∀ c, cs[j]? = some c → Rep w h c u := by
          intro j hj
          obtain ⟨u, q1, q2⟩ := hrow.get j cs[j] (List.getElem?_eq_getElem (by omega))
          exact ⟨u, q1, fun c hc => by rw [List.getElem?_eq_getElem (by omega)] at hc; injection hc with hc; subst hc; exact q2⟩
        have hex : ∃ vs : List Value, vs.length = z ∧ ∀ j u, vs[j]? = some u → w.cell? ⟨gb, off + j, none⟩ = some u ∧ ∀ c, cs[j]? = some c → Rep w h c u := by
          refine ⟨(List.range z).map fun j => (w.cell? ⟨gb, off + j, none⟩).getD undef, by simp, fun j u hj => ?_⟩
          rw [List.getElem?_map] at hj
          obtain ⟨i, hi1, hi2⟩ := Option.map_eq_some_iff.1 hj
          have hjz : j < z := by
            have := (List.getElem?_eq_some_iff.1 hi1).1
            simpa using this
          rw [List.getElem?_range hjz] at hi1
          injection hi1 with hi1; subst hi1
          obtain ⟨u', q1, q2⟩ := hget j hjz
          rw [q1] at hi2
          simp only [Option.getD_some] at hi2
          subst hi2
          exact ⟨q1, q2⟩
        obtain ⟨vs, hvl, hvs⟩ := hex
        have hrep : ∀ O, RepDs w h ρ ((cs.take z).map .p) O 0 vs := fun O => by
          refine RepDs.of_get (by simp [hvl]; omega) fun i d v hd hv => ?_
          rw [List.getElem?_map, List.getElem?_take] at hd
          split at hd
          · obtain ⟨c, hc1, hc2⟩ := Option.map_eq_some_iff.1 hd
            subst hc2
            simp only [RepD]
            exact (hvs i v hv).2 c hc1
          · simp at hd
        have hany : ∀ O, ∃ v, ((g = true ∧ v = .agg vs.toArray) ∨ (g = false ∧ vs = [v])) ∧ RepD w h ρ d O v := fun O =>
          asVal_rep h1 (hrep (fun _ _ => False)) O (fun _ _ _ hf => hf.elim)
        obtain ⟨v, hvv, _⟩ := hany (fun _ _ => False)
        unfold Oper.wp
        have hrun : (execOp a.eval o).run C.P w = .ok (.value v) w := by
          simp only [execOp, hop, hv, Sem.run_bind, load_run hz hg gb off w vs hvl (fun j u hj => (hvs j u hj).1) v hvv, Result.andThen_ok, Sem.run_pure]
        rw [hrun]
        refine hK _ _ _ _ _ (r.put o.dst hd fun O => ?_)
        obtain ⟨v', hvv', hr⟩ := hany O
        have : v' = v := by
          rcases hvv with ⟨q1, q2⟩ | ⟨q1, q2⟩ <;> rcases hvv' with ⟨q3, q4⟩ | ⟨q3, q4⟩ <;> simp_all
        rw [← this]; exact hr
      · cases e
    · cases e
  · cases e
end Go.Proofs.Dm

set_option linter.unusedVariables false
set_option linter.unusedSimpArgs false
namespace Go.Proofs.Dm
open Go Go.RowKit
def solids : List DV → Bool
  | [] => true
  | d :: ds => solid d && solids ds
theorem solids_get : ∀ {ds : List DV}, solids ds = true → ∀ (i : Nat) (d : DV), ds[i]? = some d → solid d = true
  | [], _, i, d, h => by simp at h
  | d' :: ds, hs, 0, d, h => by simp only [solids, Bool.and_eq_true] at hs; simp at h; subst h; exact hs.1
  | d' :: ds, hs, i + 1, d, h => by simp only [solids, Bool.and_eq_true] at hs; exact solids_get hs.2 i d (by simpa using h)
def mvStore (t id off : Nat) (agg : Bool) : Pos → Pos
  | .tmp (i :: q) => if i = t then .cell (id :: (if agg then (match q with | k :: p => (off + k) :: p | [] => [off]) else off :: q)) else .tmp (i :: q)
  | x => x
def storeD (P : Program) (o : Oper) (t : TypeId) (x y : Operand) (s : St) : Option St :=
  match o.dst, tsz P t with
  | none, some z => match evalD s x, evalD s y with
    | some (.ref id off), some v => match flat v, s.hp[id]? with
      | some cs, some box => if cs.length = z ∧ off + z ≤ box.length ∧ solids cs = true ∧ box ≠ [] then
          (if hasOwn v then (match y with
            | .tmp ty => some { s.put (some ty) .un with hp := s.hp.set id (box.take off ++ coerCells P (tcells P t) cs ++ box.drop (off + z)) }
            | _ => none) else some { s with hp := s.hp.set id (box.take off ++ coerCells P (tcells P t) cs ++ box.drop (off + z)) }) else none
      | _, _ => none
    | _, _ => none
  | _, _ => none
theorem splice3_get {α : Type} (l m : List α) (off z : Nat) (hm : m.length = z) (hl : off + z ≤ l.length) (i : Nat) :
    (l.take off ++ m ++ l.drop (off + z))[i]? = if off ≤ i ∧ i < off + z then m[i - off]? else l[i]? := by
  by_cases h1 : i < off
  · rw [if_neg (by omega), List.append_assoc, List.getElem?_append_left (by simp; omega), List.getElem?_take, if_pos h1]
  · by_cases h2 : i < off + z
    · rw [if_pos ⟨by omega, h2⟩, List.getElem?_append_left (by simp; omega), List.getElem?_append_right (by simp; omega)]
      congr 1
      simp; omega
    · rw [if_neg (by omega), List.getElem?_append_right (by simp; omega), List.getElem?_drop]
      congr 1
      simp; omega
theorem Rel.stored {C w0 h0 ow0 r0 n s a w h ow ρ} (r : Rel C w0 h0 ow0 r0 n s a w h ow ρ) {id off z b : Nat} {box ds : List DV} {vs : List Value} {cs : Array Value} {T : TypeId}
    (hb : s.hp[id]? = some box) (hρ : ρ[id]? = some b) (hh : w.heap[b]? = some (.cells cs T (0, 0))) (hz : ds.length = z) (hoff : off + z ≤ box.length) (hne : box ≠ [])
    (f : Pos → Pos) (hbox : ∀ i, f (.box i) = .box i) (hcell : ∀ p, f (.cell p) = .cell p)
    (hds : RepDs w h ρ ds (fun g q => match q with | k :: p => (ow g).map f = some (.cell (id :: (off + k) :: p)) | [] => False) 0 vs)
    (s' : St) (hs' : s'.hp = s.hp.set id (box.take off ++ ds ++ box.drop (off + z))) (hdom : ∀ i, n ≤ i → s'.tm i = .un)
    (htm : ∀ i, s'.tm i = .un ∨ (s'.tm i = s.tm i ∧ ∀ p, f (.tmp (i :: p)) = .tmp (i :: p))) :
    Rel C w0 h0 ow0 r0 n s' a (w.setRow b (cs.toList.take off ++ vs ++ cs.toList.drop (off + z)).toArray) h (fun g => (ow g).map f) ρ := by
  obtain ⟨p1, p2, cs0, T0, hh0, hbl, hrr⟩ := r.hr.box id box b hb hρ hne
  rw [hh] at hh0
  obtain ⟨rfl, rfl⟩ : cs = cs0 ∧ T = T0 := by injection hh0 with hh0; injection hh0 with q1 q2; exact ⟨q1, q2⟩
  have hlen := hrr.length
  have hvl := hds.length
  have hst : Stable w h (w.setRow b (cs.toList.take off ++ vs ++ cs.toList.drop (off + z)).toArray) h := ⟨fun _ => Nat.le_refl _, fun b' i hi => by
    have hne : b' ≠ b := by
      intro e; subst e; rw [p2] at hi; omega
    simp only [World.cell?, setRow_other w b b' _ hne], fun b' cs' T' f' q => by
    by_cases hbb : b' = b
    · subst hbb
      rw [hh] at q; injection q with q; injection q with q1 q2 q3; subst q1
      subst q2
      exact ⟨_, _, setRow_heap w b' cs _ T _ hh, by simp; omega⟩
    · exact ⟨cs', f', by rw [setRow_other w b b' _ hbb]; exact q, rfl⟩⟩
  have hO : ∀ (P : Nat → List Nat → Prop) (Q : Nat → List Nat → Prop), (∀ g p, P g p → ow g ≠ some (.box id)) → (∀ g p, P g p → Q g p) →
      ∀ g p, P g p → (w.setRow b (cs.toList.take off ++ vs ++ cs.toList.drop (off + z)).toArray).heap[g]? = w.heap[g]? ∧ h g = h g ∧ Q g p := by
    intro P Q h1 h2 g p hp
    have hne : g ≠ b := fun e => h1 g p hp (by rw [e]; exact p1)
    exact ⟨setRow_other w b g _ hne, rfl, h2 g p hp⟩
  have hsz : (w.setRow b (cs.toList.take off ++ vs ++ cs.toList.drop (off + z)).toArray).heap.size = w.heap.size := by simp [World.setRow]
  have hfr : Fr w h ow (w.setRow b (cs.toList.take off ++ vs ++ cs.toList.drop (off + z)).toArray) h (fun g => (ow g).map f) :=
    ⟨hst, by rw [hsz]; exact Nat.le_refl _, rfl, rfl, rfl, fun b' hb' ho => ⟨setRow_other w b b' _ (fun e => by rw [e, p1] at ho; cases ho), rfl, by simp [ho]⟩⟩
  refine ⟨r.glob.fr hfr, r.fr.trans hfr, ⟨by rw [hs']; simp [r.hr.len], fun i bx b' h1 h2 hne' => ?_, fun g hg => ?_, fun b' hb' => r.hr.hz b' (by rw [hsz] at hb'; exact hb')⟩, r.defers, r.size, fun i => ?_, hdom, r.pre⟩
  · rw [hs'] at h1
    by_cases hi : i = id
    · subst hi
      rw [hρ] at h2; injection h2 with h2; subst h2
      have hlt : i < s.hp.length := (List.getElem?_eq_some_iff.1 hb).1
      rw [List.getElem?_set_self hlt] at h1
      injection h1 with h1; subst h1
      have hnl : (box.take off ++ ds ++ box.drop (off + z)).length = box.length := by simp; omega
      refine ⟨by simp [p1, hbox], p2, _, T, setRow_heap w b cs _ T _ hh, by rw [hnl]; simp; omega, RepDs.of_get (by rw [hnl]; simp; omega) fun k d1 v hd1 hv1 => ?_⟩
      · have hkl : k < box.length := by rw [← hnl]; exact (List.getElem?_eq_some_iff.1 hd1).1
        have hv1 : ((cs.toList.take off ++ vs ++ cs.toList.drop (off + z)).take (box.take off ++ ds ++ box.drop (off + z)).length)[k]? = some v := hv1
        rw [List.getElem?_take, hnl, if_pos hkl] at hv1
        rw [splice3_get box ds off z hz hoff k] at hd1
        rw [splice3_get cs.toList vs off z (by omega) (by simp; omega) k] at hv1
        split at hd1
        · rename_i hk
          rw [if_pos hk] at hv1
          obtain ⟨v', q1, q2⟩ := hds.get _ d1 hd1
          rw [q1] at hv1; injection hv1 with hv1; subst hv1
          refine RepD.step hst (fun _ _ h => h) d1 _ _ _ (hO _ _ (fun g p ho e => ?_) (fun g p ho => ?_)) q2
          · simp only [Nat.zero_add] at ho
            rw [e] at ho; simp [hbox] at ho
          · simp only [Nat.zero_add] at ho ⊢
            rw [ho]
            have : off + (k - off) = k := by omega
            rw [this]
        · rename_i hk
          rw [if_neg hk] at hv1
          obtain ⟨v', q1, q2⟩ := hrr.get k d1 hd1
          rw [List.getElem?_take, if_pos hkl] at q1
          rw [q1] at hv1; injection hv1 with hv1; subst hv1
          exact RepD.step hst (fun _ _ h => h) d1 _ _ _ (hO _ _ (fun g p ho e => by rw [e] at ho; simp at ho) (fun g p ho => by simp [ho, hcell])) q2
    · rw [List.getElem?_set_ne (fun e => hi e.symm)] at h1
      obtain ⟨p1', p2', cs', T', hh', hl', hrr'⟩ := r.hr.box i bx b' h1 h2 hne'
      have hne : b' ≠ b := fun e => by rw [e, p1] at p1'; injection p1' with p1'; injection p1' with p1'; exact hi p1'.symm
      refine ⟨by simp [p1', hbox], p2', cs', T', by rw [setRow_other w b b' _ hne]; exact hh', hl', ?_⟩
      exact RepDs.step hst (fun _ _ h => h) bx _ _ 0 _ (hO _ _ (fun g p ho e => by rw [e] at ho; simp at ho) (fun g p ho => by simp [ho, hcell])) hrr'
  · rw [hsz]
    exact r.hr.lt g (fun e => hg (by simp [e]))
  · rcases htm i with e | ⟨e, q⟩
    · rw [e]; simp only [RepD]
    · rw [e]
      exact RepD.step hst (fun _ _ h => h) _ _ _ _ (hO _ _ (fun g p ho e => by rw [e] at ho; simp at ho) (fun g p ho => by simp [ho, q])) (r.tm i)
theorem storeD_ok {C w0 h0 ow0 r0 n o t x y s s'} (hop : o.op = .store t x y) (e : storeD C.P o t x y s = some s') : StepOK C w0 h0 ow0 r0 n o s s' := by
  intro a w h ow ρ r K Q hK
  unfold storeD at e
  split at e
  · rename_i z hdst hz
    split at e
    · rename_i id off v hx hy
      split at e
      · rename_i cs box hf hb
        split at e
        · rename_i hc
          obtain ⟨hcl, hoff, hsol, hne⟩ := hc
          have hx' := evalD_rep r hx
          simp only [RepD] at hx'
          obtain ⟨b, hρ, hv⟩ := hx'
          obtain ⟨p1, p2, cs0, T, hh, hbl, hrr⟩ := r.hr.box id box b hb hρ hne
          obtain ⟨O', hr, hO'⟩ := flat_rep hf (evalD_rep r hy)
          have hlen := hrr.length
          have hvl := hr.length
          have hone : ∀ u ∈ (a.eval y).cells.toList, u.oneCell' = true := by
            intro u hu
            obtain ⟨i, hi⟩ := List.mem_iff_getElem?.1 hu
            have : i < cs.length := by rw [← hvl]; exact (List.getElem?_eq_some_iff.1 hi).1
            obtain ⟨v', q1, q2⟩ := hr.get i cs[i] (List.getElem?_eq_getElem this)
            rw [q1] at hi; injection hi with hi; subst hi
            exact solid_one (solids_get hsol i _ (List.getElem?_eq_getElem this)) q2
          have hst := run_storeCells_at C.P b off T (a.eval y).cells.toList 0 cs0 w hh (by simp at hlen hvl ⊢; omega) hone
          have hrun : (execOp a.eval o).run C.P w = .ok .skip (w.setRow b (cs0.toList.take off ++ (a.eval y).cells.toList ++ cs0.toList.drop (off + z)).toArray) := by
            have hsz : (a.eval y).cells.size = z := by simp at hvl; omega
            simp only [execOp, hop, hv, Instr.storeAt, Instr.sureAddr, storeVar, Sem.run_bind, Sem.run_pure, Result.andThen_ok, tsz_spec hz, hsz]
            simp only [ne_eq, not_true_eq_false, if_false, Sem.run_bind, Sem.run_pure, Result.andThen_ok]
            have : (a.eval y).cells.toList.length = z := by omega
            simp only [Nat.add_zero, this] at hst
            rw [hst]
            rfl
          unfold Oper.wp
          rw [hrun]
          show K (a.put o.dst undef) _
          rw [hdst]
          split at e
          · rename_i hown
            split at e
            · rename_i ty
              injection e with e; subst e
              refine hK a _ h _ ρ (r.stored (z := z) hb hρ hh (by rw [coerCells_len]; exact hcl) hoff hne (mvStore ty id off (isAggD v)) (fun i => rfl) (fun p => rfl)
                (RepDs.wk (coerCells_wk _ _ _) (RepDs.of_get hvl fun i d u hd hu => ?_)) _ rfl (fun i hi => ?_) (fun i => ?_))
              · obtain ⟨v', q1, q2⟩ := hr.get i d hd
                rw [q1] at hu; injection hu with hu; subst hu
                refine q2.rename fun g p ho => ?_
                have ho2 : ow g = some (.tmp (ty :: (if isAggD v then (0 + i) :: p else p))) := hO' g (0 + i) p ho
                simp only [Nat.zero_add] at ho2 ⊢
                rw [ho2]
                simp only [Option.map_some, mvStore, if_true]
                by_cases hag : isAggD v = true
                · simp [hag]
                · simp only [hag, Bool.false_eq_true, if_false]
                  have : i = 0 := by
                    have hi := (List.getElem?_eq_some_iff.1 hd).1
                    have : cs.length = 1 := by
                      cases v <;> simp [isAggD] at hag <;> simp only [flat] at hf <;> split at hf <;> first
                        | (injection hf with hf; subst hf; rfl)
                        | cases hf
                    omega
                  subst this
                  simp
              · simp only [St.put]
                split
                · rfl
                · exact r.dom i hi
              · simp only [St.put]
                by_cases hit : i = ty
                · rw [if_pos hit]; exact .inl rfl
                · rw [if_neg hit]; exact .inr ⟨rfl, fun p => by simp [mvStore, hit]⟩
            · cases e
          · rename_i hown
            injection e with e; subst e
            have hmap : (fun g => (ow g).map (fun x => x)) = ow := by funext g; cases ow g <;> rfl
            have := r.stored (z := z) (ds := coerCells C.P (tcells C.P t) cs) hb hρ hh (by rw [coerCells_len]; exact hcl) hoff hne (fun x => x) (fun i => rfl) (fun p => rfl)
                (vs := (a.eval y).cells.toList) (RepDs.wk (coerCells_wk _ _ _) ?_) { s with hp := s.hp.set id (box.take off ++ coerCells C.P (tcells C.P t) cs ++ box.drop (off + z)) } rfl r.dom
                (fun i => .inr ⟨rfl, fun p => rfl⟩)
            · exact hK a _ h _ ρ this
            · obtain ⟨O2, hr2, _⟩ := flat_rep hf (RepD.free _ _ (fun _ _ => False) _ (by simpa using hown) (evalD_rep r hy))
              refine RepDs.of_get hr2.length fun i d u hd hu => ?_
              obtain ⟨v', q1, q2⟩ := hr2.get i d hd
              rw [q1] at hu; injection hu with hu; subst hu
              obtain ⟨O3, hr3, hO3⟩ := flat_rep hf (RepD.free _ _ (fun _ _ => False) _ (by simpa using hown) (evalD_rep r hy))
              obtain ⟨v3, q3, q4⟩ := hr3.get i d hd
              rw [q1] at q3; injection q3 with q3; subst q3
              exact q4.rename fun g p ho => (hO3 g (0 + i) p ho).elim
        · cases e
      · cases e
    · cases e
  · cases e
end Go.Proofs.Dm

set_option linter.unusedVariables false
set_option linter.unusedSimpArgs false
namespace Go.Proofs.Dm
open Go Go.RowKit
theorem pd_one {w h} {c : PD} {u : Value} (r : Rep w h c u) : u.oneCell' = true := by
  have : RepD w h [] (.p c) (fun _ _ => False) u := by simpa only [RepD] using r
  exact solid_one (by cases c <;> rfl) this
theorem rows_vals {w h} {xs : List (List PD)} {z g off : Nat} (hz : ∀ x ∈ xs, x.length = z) (r : RepRows w h xs (fun j => w.cell? ⟨g, off + j, none⟩)) :
    ∃ vs : List Value, vs.length = xs.length * z ∧ (∀ j u, vs[j]? = some u → w.cell? ⟨g, off + j, none⟩ = some u) ∧ RepRows w h xs (fun j => vs[j]?) ∧ ∀ u ∈ vs, u.oneCell' = true := by
  have hget : ∀ j, j < xs.length * z → ∃ u c, w.cell? ⟨g, off + j, none⟩ = some u ∧ Rep w h c u := by
    intro j hj
    have hz0 : 0 < z := by
      rcases Nat.eq_zero_or_pos z with e | e
      · subst e; simp at hj
      · exact e
    have hi : j / z < xs.length := (Nat.div_lt_iff_lt_mul hz0).2 hj
    have hrow := r.get hz (j / z) xs[j / z] (List.getElem?_eq_getElem hi)
    have hm : j % z < (xs[j / z]).length := by rw [hz _ (List.getElem_mem hi)]; exact Nat.mod_lt _ hz0
    obtain ⟨u, q1, q2⟩ := hrow.get (j % z) _ (List.getElem?_eq_getElem hm)
    have e : j / z * z + j % z = j := by rw [Nat.mul_comm]; exact Nat.div_add_mod j z
    simp only [e] at q1
    exact ⟨u, _, q1, q2⟩
  refine ⟨(List.range (xs.length * z)).map fun j => (w.cell? ⟨g, off + j, none⟩).getD undef, by simp, ?_, ?_, ?_⟩
  · intro j u hj
    rw [List.getElem?_map] at hj
    obtain ⟨i, hi1, hi2⟩ := Option.map_eq_some_iff.1 hj
    have hjz : j < xs.length * z := by
      have := (List.getElem?_eq_some_iff.1 hi1).1
      simpa using this
    rw [List.getElem?_range hjz] at hi1
    injection hi1 with hi1; subst hi1
    obtain ⟨u', c, q1, q2⟩ := hget j hjz
    rw [q1] at hi2 ⊢
    simpa using hi2
  · refine RepRows.mono (Stable.refl w h) xs _ _ (xs.length * z) (fun j hj => ?_) (rowsLen xs z hz) r
    rw [List.getElem?_map, List.getElem?_range hj]
    obtain ⟨u', c, q1, q2⟩ := hget j hj
    simp [q1]
  · intro u hu
    obtain ⟨j, hj, rfl⟩ := List.mem_map.1 hu
    obtain ⟨u', c, q1, q2⟩ := hget j (by simpa using hj)
    rw [q1]
    exact pd_one q2
theorem RepRows.append {w h} : ∀ {xs ys : List (List PD)} {vs us : List Value}, (xs.map List.length).sum = vs.length → RepRows w h xs (fun j => vs[j]?) → RepRows w h ys (fun j => us[j]?) →
    RepRows w h (xs ++ ys) (fun j => (vs ++ us)[j]?) := by
  intro xs
  induction xs with
  | nil =>
    intro ys vs us hl _ h2
    have : vs = [] := List.eq_nil_of_length_eq_zero (by simpa using hl.symm)
    subst this
    simpa using h2
  | cons x xs ih =>
    intro ys vs us hl h1 h2
    simp only [List.map_cons, List.sum_cons] at hl
    simp only [RepRows, List.cons_append] at h1 ⊢
    refine ⟨RepRow.mono (Stable.refl w h) x _ _ x.length (fun j hj => ?_) (Nat.le_refl _) h1.1, ?_⟩
    · rw [List.getElem?_append_left (by omega)]
    · have := ih (ys := ys) (vs := vs.drop x.length) (us := us) (by simp; omega) (by
        refine RepRows.mono (Stable.refl w h) xs _ _ _ (fun j hj => ?_) rfl h1.2
        rw [List.getElem?_drop]) h2
      refine RepRows.mono (Stable.refl w h) (xs ++ ys) _ _ _ (fun j hj => ?_) rfl this
      by_cases hlt : x.length + j < vs.length
      · rw [List.getElem?_append_left hlt, List.getElem?_append_left (by simp; omega), List.getElem?_drop]
      · rw [List.getElem?_append_right (by omega), List.getElem?_append_right (by simp; omega)]
        congr 1
        simp; omega
def appBase (P : Program) (e z : Nat) (s : St) (x : Operand) : Option (List (List PD) × Option Tmp) :=
  match evalD s x with
  | some (.own e' z' xs) => match x with
    | .tmp t => if e' = e ∧ z' = z then some (xs, some t) else none
    | _ => none
  | some .nil => some ([], none)
  | _ => none
def appMore (z : Nat) (s : St) (y : Operand) : Option (List (List PD)) :=
  match evalD s y with
  | some .nil => some []
  | some d => match elems d with
    | some (z', ys) => if z' = z then some ys else none
    | none => none
  | none => none
def bytesR (b : ByteArray) : List (List PD) := b.data.toList.map fun c => [.int .u8 c.toNat]
def appMoreT (P : Program) (t t' : TypeId) (z by_ : Nat) (s : St) (y : Operand) : Option (List (List PD)) :=
  if t = t' then appMore z s y else match evalD s y with
  | some (.p (.str b)) => if tkind P t' = some 0 ∧ z = 1 ∧ by_ = 1 then some (bytesR b) else none
  | _ => none
def appendD (P : Program) (o : Oper) (c : Call) (s : St) : Option St :=
  match c.callee with
  | .builtin .append => match c.args.toList, c.argTypes.toList with
    | [x, y], [t, t'] => match tslice P t with
      | some e => match tsz P e, tbytes P e, tzero P e, o.dst with
        | some z, some by_, some zv, some d => match appBase P e z s x, appMoreT P t t' z by_ s y with
          | some (xs, own?), some ys => if 0 < z ∧ zv.cells.size = z ∧ (xs.length + ys.length) * by_ ≤ 140737488355328 ∧ xs.length + ys.length ≤ maxLen then
              some ((s.put own? .un).put (some d) (.own e z (xs ++ ys))) else none
          | _, _ => none
        | _, _, _, _ => none
      | none => none
    | _, _ => none
  | _ => none
theorem run_append_none {P : Program} {t e : TypeId} (ht : P.underlying t = some (.slice e)) {z : Nat} (hz : tsz P e = some z) (ty : TypeId) (b : Option Addr) (n c : Nat) (hc : n ≤ c) (a : Option Addr) (k : Nat) (w : World) :
    (Builtin.append_ #[t, t] ty #[.slice b n c, .slice a 0 k]).run P w = .ok (.slice b n c) w := by
  have hl : ∀ (x : Addr), (loadCells x 0).run P w = .ok #[] w := fun x => by simpa using run_loadCells_list (P := P) w x [] (by simp)
  cases b <;> cases a <;> simp [Builtin.append_, run_underlying ht, tsz_spec hz, Builtin.lenOf, Builtin.firstCells, hc, storeCells, hl]
theorem append_core {P : Program} {t e : TypeId} {z by_ : Nat} {zv : Value} (ht : tslice P t = some e) (hz : tsz P e = some z) (hby : tbytes P e = some by_) (hzv : tzero P e = some zv) (h0 : 0 < z) (hzz : zv.cells.size = z)
    {w : World} {h : Mark} {xs ys : List (List PD)} {v vy : Value} {vals : List Value} (ty : TypeId)
    (hown : w.ownsRow 0 e z v xs.length vals) (hx : ∀ x ∈ xs, x.length = z) (hr : RepRows w h xs (fun j => vals[j]?)) (h1 : ∀ u ∈ vals, u.oneCell' = true) (hg : ∀ g, v.ownBlock = some g → h g = xs.length * z)
    (hhz : ∀ b, w.heap.size ≤ b → h b = 0)
    (hy : Rep w h (.sl z ys) vy) (hb : (xs.length + ys.length) * by_ ≤ 140737488355328) (hm : xs.length + ys.length ≤ maxLen) :
    ∃ v' w' vals', (Builtin.append_ #[t, t] ty #[v, vy]).run P w = .ok v' w' ∧ w'.ownsRow 0 e z v' (xs ++ ys).length vals' ∧ (∀ x ∈ xs ++ ys, x.length = z) ∧ RepRows w h (xs ++ ys) (fun j => vals'[j]?) ∧
      (∀ u ∈ vals', u.oneCell' = true) ∧ w.grownBy w' v.ownBlock ∧ (v'.ownBlock = none ∨ v'.ownBlock = v.ownBlock ∨ v'.ownBlock = some w.heap.size) ∧
      (∀ b i, i < h b → w'.cell? ⟨b, i, none⟩ = w.cell? ⟨b, i, none⟩) ∧ (v'.ownBlock = none → v.ownBlock = none) ∧
      (∀ (b : Nat) (cs : Array Value) (T : TypeId) (f : Nat × Nat), w.heap[b]? = some (.cells cs T f) → ∃ cs' f', w'.heap[b]? = some (.cells cs' T f') ∧ cs'.size = cs.size) := by
  have hu := tslice_spec ht
  have hrows := rowsLen xs z hx
  simp only [Rep] at hy
  obtain ⟨i, hi1, hi2⟩ := Option.map_eq_some_iff.1 hz
  obtain ⟨i', hi1', hi3⟩ := Option.map_eq_some_iff.1 hby
  obtain ⟨i'', hi1'', hi4⟩ := Option.bind_eq_some_iff.1 hzv
  rw [hi1] at hi1' hi1''
  injection hi1' with q; subst q
  injection hi1'' with q; subst q
  rcases hy with ⟨rfl, ay, cy, rfl, hay⟩ | ⟨gy, offy, capy, rfl, hcy, hhy, hzy, hry⟩
  · -- nothing is appended
    have hv : ∃ b c, v = .slice b xs.length c ∧ xs.length ≤ c := by
      rcases hown.2 with ⟨rfl, q⟩ | ⟨g, cap, cur, rfl, _, _, q, _⟩
      · exact ⟨none, 0, by rw [q], by omega⟩
      · exact ⟨_, cap, rfl, q⟩
    obtain ⟨b, c, rfl, hc⟩ := hv
    refine ⟨_, w, vals, run_append_none hu hz ty b _ c hc ay cy w, by simpa using hown, by simpa using hx, by simpa using hr, h1, ⟨rfl, rfl, rfl, Nat.le_refl _, fun _ _ _ => rfl⟩, .inr (.inl rfl), fun _ _ _ => rfl, fun h => h, fun b cs T f q => ⟨cs, f, q, rfl⟩⟩
  · obtain ⟨news, hnl, hnews, hnr, hn1⟩ := rows_vals hzy hry
    obtain ⟨v', w', q1, q2, q3, q4, q5⟩ := run_append_own_at (P := P) w 0 t ty e i zv z by_ hu hi1 hi4 hi2 hi3 hzz h0 v xs.length vals hown ⟨gy, offy, none⟩ ys.length capy news hnl
      (fun j u hj => by rw [addr_add]; exact hnews j u hj) hn1 hm hb (by omega)
    refine ⟨v', w', vals ++ news, q1, by simpa using q2, fun x hxx => ?_, RepRows.append (by rw [hrows, hown.1]) hr hnr, fun u hu => ?_, q3, ?_, ?_, ?_, ?_⟩
    · rcases List.mem_append.1 hxx with q | q
      · exact hx x q
      · exact hzy x q
    · rcases List.mem_append.1 hu with q | q
      · exact h1 u q
      · exact hn1 u q
    · rcases q5 with q | q
      · exact .inr (.inl q)
      · exact .inr (.inr q)
    · intro b k hk
      have hblt : b < w.heap.size := by
        rcases Nat.lt_or_ge b w.heap.size with q | q
        · exact q
        · rw [hhz b q] at hk; omega
      by_cases hvb : v.ownBlock = some b
      · rcases hown.2 with ⟨rfl, _⟩ | ⟨g, cap, cur, rfl, _, hgh, hnc, hcm, hcs, htake⟩
        · simp [Value.ownBlock] at hvb
        · have hgb : g = b := by simpa [Value.ownBlock] using hvb
          subst hgb
          by_cases hroom : xs.length + ys.length ≤ cap
          · have hfit : xs.length * i.size + news.length ≤ cur.size := by rw [hi2, hnl, hcs, ← Nat.add_mul]; exact Nat.mul_le_mul_right _ hroom
            have hr2 := run_append_room (P := P) w t ty e i hu hi1 g xs.length cap cur hgh ⟨gy, offy, none⟩ ys.length capy news (by rw [hi2]; exact hnl)
              (fun j u hj => by rw [addr_add]; exact hnews j u hj) hn1 hroom hfit
            rw [q1] at hr2
            injection hr2 with e1 e2
            rw [e2]
            have hk2 : k < xs.length * z := by rw [hg g rfl] at hk; exact hk
            rw [hi2] at hfit ⊢
            simp only [World.cell?, setRow_heap w g cur _ e _ hgh, hgh]
            have : (cur.toList.take (xs.length * z) ++ news ++ cur.toList.drop (xs.length * z + news.length))[k]? = cur.toList[k]? := by
              rw [List.append_assoc, List.getElem?_append_left (by simp; omega), List.getElem?_take, if_pos hk2]
            simp only [Option.isSome_none, Bool.false_eq_true, if_false]
            rw [← Array.getElem?_toList, this, Array.getElem?_toList]
          · have holds : ∀ j u, vals[j]? = some u → w.cell? ((⟨g, 0, none⟩ : Addr).add j) = some u := hown.cells (g := g) rfl
            have hr2 := run_append_grow (P := P) w t ty e i zv hu hi1 hi4 ⟨g, 0, none⟩ xs.length cap vals (by rw [hi2]; exact hown.1) holds ⟨gy, offy, none⟩ ys.length capy news (by rw [hi2]; exact hnl)
              (fun j u hj => by rw [addr_add]; exact hnews j u hj) (by omega) (by simp only [maxLen] at hm; omega) (by rw [hi3]; exact growslice_fits (by omega) hb)
            rw [q1] at hr2
            injection hr2 with e1 e2
            rw [e2]
            have hlt' : g < w.drew.heap.size := hblt
            simp only [World.cell?, heap_alloc_old w.drew _ hlt']
            rfl
      · simp only [World.cell?, q3.block b hblt (fun e => hvb e.symm)]
    · intro hn
      rcases q5 with q | q
      · rw [← q]; exact hn
      · rw [hn] at q; cases q
    · intro b cs T f hb
      have hblt : b < w.heap.size := (Array.getElem?_eq_some_iff.1 hb).1
      by_cases hvb : v.ownBlock = some b
      · rcases hown.2 with ⟨rfl, _⟩ | ⟨g, cap, cur, rfl, _, hgh, hnc, hcm, hcs, htake⟩
        · simp [Value.ownBlock] at hvb
        · have hgb : g = b := by simpa [Value.ownBlock] using hvb
          subst hgb
          rw [hgh] at hb; injection hb with hb; injection hb with hb1 hb2 hb3; subst hb1; subst hb2
          by_cases hroom : xs.length + ys.length ≤ cap
          · have hfit : xs.length * i.size + news.length ≤ cur.size := by rw [hi2, hnl, hcs, ← Nat.add_mul]; exact Nat.mul_le_mul_right _ hroom
            have hr2 := run_append_room (P := P) w t ty e i hu hi1 g xs.length cap cur hgh ⟨gy, offy, none⟩ ys.length capy news (by rw [hi2]; exact hnl)
              (fun j u hj => by rw [addr_add]; exact hnews j u hj) hn1 hroom hfit
            rw [q1] at hr2
            injection hr2 with e1 e2
            rw [e2]
            exact ⟨_, _, setRow_heap w g cur _ e _ hgh, by simp; omega⟩
          · have holds : ∀ j u, vals[j]? = some u → w.cell? ((⟨g, 0, none⟩ : Addr).add j) = some u := hown.cells (g := g) rfl
            have hr2 := run_append_grow (P := P) w t ty e i zv hu hi1 hi4 ⟨g, 0, none⟩ xs.length cap vals (by rw [hi2]; exact hown.1) holds ⟨gy, offy, none⟩ ys.length capy news (by rw [hi2]; exact hnl)
              (fun j u hj => by rw [addr_add]; exact hnews j u hj) (by omega) (by simp only [maxLen] at hm; omega) (by rw [hi3]; exact growslice_fits (by omega) hb)
            rw [q1] at hr2
            injection hr2 with e1 e2
            rw [e2]
            have hlt' : g < w.drew.heap.size := hblt
            exact ⟨cur, _, by rw [heap_alloc_old w.drew _ hlt']; exact hgh, rfl⟩
      · exact ⟨cs, f, by rw [q3.block b hblt (fun e => hvb e.symm)]; exact hb, rfl⟩
theorem bytesR_len (b : ByteArray) : (bytesR b).length = b.size := by
  simp only [bytesR, List.length_map, Array.length_toList]; rfl
theorem bytesR_one (b : ByteArray) : ∀ x ∈ bytesR b, x.length = 1 := by
  intro x hx
  simp only [bytesR, List.mem_map] at hx
  obtain ⟨c, _, rfl⟩ := hx
  rfl
theorem bytesRows {w : World} {h : Mark} : ∀ (l : List UInt8), RepRows w h (l.map fun c => [PD.int .u8 c.toNat]) (fun j => (l.map fun b => Value.int .u8 b.toNat)[j]?)
  | [] => by simp only [List.map_nil, RepRows]
  | c :: l => by
    simp only [List.map_cons, RepRows, RepRow]
    refine ⟨⟨⟨_, rfl, by simp only [Rep]⟩, trivial⟩, ?_⟩
    have := bytesRows (w := w) (h := h) l
    have e : (fun j => (Value.int .u8 c.toNat :: l.map fun b => Value.int .u8 b.toNat)[[PD.int .u8 c.toNat].length + j]?) = fun j => (l.map fun b => Value.int .u8 b.toNat)[j]? := by
      funext j
      have e2 : [PD.int .u8 c.toNat].length + j = j + 1 := by simp only [List.length_singleton]; omega
      rw [e2, List.getElem?_cons_succ]
    rw [e]; exact this
theorem append_core_str {P : Program} {t t' e : TypeId} {zv : Value} (ht : tslice P t = some e) (ht' : tkind P t' = some 0) (hz : tsz P e = some 1) (hby : tbytes P e = some 1) (hzv : tzero P e = some zv) (hzz : zv.cells.size = 1)
    {w : World} {h : Mark} {xs : List (List PD)} {v : Value} {vals : List Value} (s : ByteArray) (ty : TypeId)
    (hown : w.ownsRow 0 e 1 v xs.length vals) (hx : ∀ x ∈ xs, x.length = 1) (hr : RepRows w h xs (fun j => vals[j]?)) (h1 : ∀ u ∈ vals, u.oneCell' = true) (hg : ∀ g, v.ownBlock = some g → h g = xs.length * 1)
    (hhz : ∀ b, w.heap.size ≤ b → h b = 0)
    (hb : (xs.length + (bytesR s).length) * 1 ≤ 140737488355328) (hm : xs.length + (bytesR s).length ≤ maxLen) :
    ∃ v' w' vals', (Builtin.append_ #[t, t'] ty #[v, .string s]).run P w = .ok v' w' ∧ w'.ownsRow 0 e 1 v' (xs ++ bytesR s).length vals' ∧ (∀ x ∈ xs ++ bytesR s, x.length = 1) ∧ RepRows w h (xs ++ bytesR s) (fun j => vals'[j]?) ∧
      (∀ u ∈ vals', u.oneCell' = true) ∧ w.grownBy w' v.ownBlock ∧ (v'.ownBlock = none ∨ v'.ownBlock = v.ownBlock ∨ v'.ownBlock = some w.heap.size) ∧
      (∀ b i, i < h b → w'.cell? ⟨b, i, none⟩ = w.cell? ⟨b, i, none⟩) ∧ (v'.ownBlock = none → v.ownBlock = none) ∧
      (∀ (b : Nat) (cs : Array Value) (T : TypeId) (f : Nat × Nat), w.heap[b]? = some (.cells cs T f) → ∃ cs' f', w'.heap[b]? = some (.cells cs' T f') ∧ cs'.size = cs.size) := by
  have hu := tslice_spec ht
  have hu' := tkind0 ht'
  have hrows := rowsLen xs 1 hx
  have hbl := bytesR_len s
  rw [hbl] at hb hm
  rw [Nat.mul_one] at hb
  obtain ⟨i, hi1, hi2⟩ := Option.map_eq_some_iff.1 hz
  obtain ⟨i', hi1', hi3⟩ := Option.map_eq_some_iff.1 hby
  obtain ⟨i'', hi1'', hi4⟩ := Option.bind_eq_some_iff.1 hzv
  rw [hi1] at hi1' hi1''
  injection hi1' with q; subst q
  injection hi1'' with q; subst q
  have hsl := Lib.strCells_length s
  have hrep : RepRows w h (xs ++ bytesR s) (fun j => (vals ++ Lib.strCells s)[j]?) := RepRows.append (by rw [hrows, hown.1]) hr (bytesRows _)
  have hone : ∀ x ∈ xs ++ bytesR s, x.length = 1 := fun x q => by
    rcases List.mem_append.1 q with q | q
    · exact hx x q
    · exact bytesR_one s x q
  have hval : ∀ u ∈ vals ++ Lib.strCells s, u.oneCell' = true := fun u q => by
    rcases List.mem_append.1 q with q | q
    · exact h1 u q
    · exact Lib.strCells_oneCell s u q
  have hvl : vals.length = xs.length := by have := hown.1; simpa using this
  have hll : (vals ++ Lib.strCells s).length = (xs ++ bytesR s).length * 1 := by simp [hvl, hsl, hbl]
  have hm' : xs.length + s.size ≤ 9223372036854775807 := by simp only [maxLen] at hm; omega
  -- a new row
  have new : ∀ (old : Nat), old < xs.length + s.size → ∀ (row : Option Nat),
      (w.drew.alloc (.cells (vals.toArray ++ (Lib.strCells s).toArray ++ Builtin.zeroCells zv.cells (grownCap w (xs.length + s.size) old e - (xs.length + s.size))) e)).ownsRow 0 e 1
        (.slice (some ⟨w.heap.size, 0, none⟩) (xs.length + s.size) (grownCap w (xs.length + s.size) old e)) (xs ++ bytesR s).length (vals ++ Lib.strCells s) ∧
      w.grownBy (w.drew.alloc (.cells (vals.toArray ++ (Lib.strCells s).toArray ++ Builtin.zeroCells zv.cells (grownCap w (xs.length + s.size) old e - (xs.length + s.size))) e)) row := by
    intro old ho row
    have hge := grownCap_ge w (xs.length + s.size) old e
    have hcm : grownCap w (xs.length + s.size) old e ≤ maxLen := grownCap_le_maxLen w (xs.length + s.size) old e hm
    have hlen : (xs ++ bytesR s).length = xs.length + s.size := by simp [hbl]
    refine ⟨⟨hll, .inr ⟨w.heap.size, _, _, by rw [hlen], Nat.zero_le _, heap_alloc_new w.drew _, by rw [hlen]; exact hge, hcm, ?_, ?_⟩⟩, ⟨rfl, rfl, rfl, by simp, fun k hk _ => heap_alloc_old w.drew _ hk⟩⟩
    · simp only [Array.size_append, List.size_toArray, size_zeroCells, hzz, hvl, hsl]
      omega
    · simp only [Array.toList_append, List.append_assoc]
      rw [← List.append_assoc, ← hll]
      exact List.take_left
  have stabNew : ∀ (cs : Array Value), ∀ b k, k < h b → (w.drew.alloc (.cells cs e)).cell? ⟨b, k, none⟩ = w.cell? ⟨b, k, none⟩ := fun cs b k hk => by
    have hblt : b < w.heap.size := by
      rcases Nat.lt_or_ge b w.heap.size with q | q
      · exact q
      · rw [hhz b q] at hk; omega
    have hlt' : b < w.drew.heap.size := hblt
    simp only [World.cell?, heap_alloc_old w.drew _ hlt']
    rfl
  have keepNew : ∀ (cs0 : Array Value), ∀ (b : Nat) (cs : Array Value) (T : TypeId) (f : Nat × Nat), w.heap[b]? = some (.cells cs T f) → ∃ cs' f', (w.drew.alloc (.cells cs0 e)).heap[b]? = some (.cells cs' T f') ∧ cs'.size = cs.size := fun cs0 b cs T f q => by
    have hlt' : b < w.drew.heap.size := (Array.getElem?_eq_some_iff.1 q).1
    exact ⟨cs, f, by rw [heap_alloc_old w.drew _ hlt']; exact q, rfl⟩
  rcases hown.2 with ⟨rfl, h0⟩ | ⟨g, cap, cur, rfl, hbg, hgh, hnc, hcm, hcs, htake⟩
  · have hxs : xs = [] := List.eq_nil_of_length_eq_zero h0
    subst hxs
    have hvs : vals = [] := List.eq_nil_of_length_eq_zero (by simpa using hvl)
    subst hvs
    by_cases hs0 : s.size = 0
    · have hn : bytesR s = [] := List.eq_nil_of_length_eq_zero (by rw [hbl]; exact hs0)
      have hf := Lib.run_firstCells_string (P := P) w 1 s
      rw [hs0] at hf
      have hsc : Lib.strCells s = [] := List.eq_nil_of_length_eq_zero (by rw [hsl]; exact hs0)
      rw [hsc] at hf
      refine ⟨.slice none 0 0, w, [], ?_, by rw [hn]; exact World.ownsRow_nil w 0 e 1, by simp [hn], by rw [hn]; simp only [List.append_nil, RepRows], by simp, ⟨rfl, rfl, rfl, Nat.le_refl _, fun _ _ _ => rfl⟩, .inl rfl, fun _ _ _ => rfl, fun q => q, fun b cs T f q => ⟨cs, f, q, rfl⟩⟩
      simp [Builtin.append_, run_underlying hu, run_underlying hu', sizeOf, typeInfo, hi1, hi2, Builtin.lenOf, hs0, hf]
    · have hr0 := run_append_nil_string (P := P) w t t' ty e i zv hu hu' hi1 hi4 s (by omega) (by simp at hm'; omega) (by rw [hi3]; simp at hb; omega)
      have e1 : (s.data.map fun b => Value.int .u8 b.toNat) = (Lib.strCells s).toArray := by
        apply Array.ext'
        simp [Lib.strCells]
      rw [e1] at hr0
      have hgr := new 0 (by simp; omega) none
      simp only [List.length_nil, Nat.zero_add, List.nil_append] at hgr hrep hone hval ⊢
      have e2 : (([] : List Value).toArray ++ (Lib.strCells s).toArray) = (Lib.strCells s).toArray := by simp
      rw [e2] at hgr
      exact ⟨_, _, _, hr0, hgr.1, hone, hrep, hval, hgr.2, .inr (.inr rfl), stabNew _, fun q => rfl, keepNew _⟩
  · by_cases hroom : xs.length + s.size ≤ cap
    · have hfit : xs.length + s.size ≤ cur.size := by rw [hcs]; omega
      have hr0 := Lib.run_append_room_string (P := P) w t t' ty e i hu hu' hi1 hi2 g xs.length cap cur hgh s hroom hfit
      have htk : cur.toList.take xs.length = vals := by simpa using htake
      have hlen : (xs ++ bytesR s).length = xs.length + s.size := by simp [hbl]
      refine ⟨_, _, vals ++ Lib.strCells s, hr0, ⟨hll, .inr ⟨g, cap, _, by rw [hlen], hbg, setRow_heap w g cur _ e _ hgh, by rw [hlen]; exact hroom, hcm, ?_, ?_⟩⟩, hone, hrep, hval, ⟨rfl, rfl, rfl, by simp [World.setRow], fun k _ hk => setRow_other w g k _ (fun e => hk (by simp [Value.ownBlock, e]))⟩, .inr (.inl rfl), ?_, fun q => by simp [Value.ownBlock] at q, ?_⟩
      · simp only [List.size_toArray, List.length_append, List.length_take, List.length_drop, Array.length_toList, hsl]
        omega
      · rw [htk, ← hll]
        exact List.take_left
      · intro b k hk
        by_cases hgb : b = g
        · subst hgb
          have hk2 : k < xs.length := by have := hg b rfl; omega
          simp only [World.cell?, setRow_heap w b cur _ e _ hgh, hgh, Option.isSome_none, Bool.false_eq_true, if_false]
          have : (cur.toList.take xs.length ++ Lib.strCells s ++ cur.toList.drop (xs.length + s.size))[k]? = cur.toList[k]? := by
            rw [List.append_assoc, List.getElem?_append_left (by simp; omega), List.getElem?_take, if_pos hk2]
          rw [← Array.getElem?_toList, this, Array.getElem?_toList]
        · simp only [World.cell?, setRow_other w g b _ hgb]
      · intro b cs T f q
        by_cases hgb : b = g
        · subst hgb
          rw [hgh] at q; injection q with q; injection q with q1 q2 q3; subst q1; subst q2
          exact ⟨_, _, setRow_heap w b cur _ e _ hgh, by simp [hsl]; omega⟩
        · exact ⟨cs, f, by rw [setRow_other w g b _ hgb]; exact q, rfl⟩
    · have holds : ∀ j u, vals[j]? = some u → w.cell? ((⟨g, 0, none⟩ : Addr).add j) = some u := hown.cells (g := g) rfl
      have hr0 := Lib.run_append_grow_string (P := P) w t t' ty e i zv hu hu' hi1 hi4 ⟨g, 0, none⟩ xs.length cap vals (by rw [hi2]; simpa using hvl) holds s (by omega) (by omega) (by rw [hi3]; exact growslice_fits (by omega) (by omega))
      have hgr := new cap (by omega) (Value.ownBlock (.slice (some ⟨g, 0, none⟩) xs.length cap))
      exact ⟨_, _, _, hr0, hgr.1, hone, hrep, hval, hgr.2, .inr (.inr rfl), stabNew _, fun q => by simp [Value.ownBlock] at q, keepNew _⟩
end Go.Proofs.Dm
