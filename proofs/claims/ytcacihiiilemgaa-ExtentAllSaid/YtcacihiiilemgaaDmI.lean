/- The D-machine, part I: append at an operation; buildSlice; build. -/
import Derived.Test.YtcacihiiilemgaaDmH
set_option linter.unusedVariables false
set_option linter.unusedSimpArgs false
namespace Go.Proofs.Dm
open Go Go.RowKit

/-- A row that is new, or was appended to: it has its owner in slot d. -/
theorem Rel.appended {C w0 h0 ow0 r0 n s a w h ow ρ} (r : Rel C w0 h0 ow0 r0 n s a w h ow ρ) (own? : Option Tmp) (d : Nat) (hd : d < n) {v v' : Value} {w' : World} {e z : Nat} {xs' : List (List PD)} {vals' : List Value}
    (hvo : ∀ g, v.ownBlock = some g → ∃ ts, own? = some ts ∧ ow g = some (.tmp [ts])) (hgrow : w.grownBy w' v.ownBlock)
    (stab : ∀ b i, i < h b → w'.cell? ⟨b, i, none⟩ = w.cell? ⟨b, i, none⟩)
    (ksz : ∀ (b : Nat) (cs : Array Value) (T : TypeId) (f : Nat × Nat), w.heap[b]? = some (.cells cs T f) → ∃ cs' T' f', w'.heap[b]? = some (.cells cs' T' f') ∧ cs'.size = cs.size) (h0z : 0 < z) (hown : w'.ownsRow 0 e z v' xs'.length vals') (hx : ∀ x ∈ xs', x.length = z)
    (hr : RepRows w h xs' (fun j => vals'[j]?)) (h1 : ∀ u ∈ vals', u.oneCell' = true) (hat : v'.ownBlock = none ∨ v'.ownBlock = v.ownBlock ∨ v'.ownBlock = some w.heap.size)
    (hle : ∀ g, v'.ownBlock = some g → h g ≤ xs'.length * z) :
    Rel C w0 h0 ow0 r0 n ((s.put own? .un).put (some d) (.own e z xs')) (a.put (some d) v') w' (fun b => if v'.ownBlock = some b then xs'.length * z else h b)
      (fun b => if v'.ownBlock = some b then some (.tmp [d]) else ow b) ρ := by
  have hd' : d < a.tmps.size := by rw [r.size]; exact hd
  have hst : Stable w h w' (fun b => if v'.ownBlock = some b then xs'.length * z else h b) := ⟨fun b => by
    show h b ≤ if _ then _ else _
    split
    · rename_i q; exact hle b q
    · exact Nat.le_refl _, stab, ksz⟩
  have hnew : ∀ g, v'.ownBlock = some g → g < w'.heap.size := by
    intro g hg
    rcases hown.2 with ⟨rfl, _⟩ | ⟨g', cap, cur, rfl, _, hh, _⟩
    · simp [Value.ownBlock] at hg
    · have : g' = g := by simpa [Value.ownBlock] using hg
      subst this
      exact (Array.getElem?_eq_some_iff.1 hh).1
  -- whoever else owns keeps
  have hO : ∀ (P Q : Nat → List Nat → Prop), (∀ g p, P g p → ow g ≠ none ∧ v.ownBlock ≠ some g) → (∀ g p, P g p → Q g p) →
      ∀ g p, P g p → w'.heap[g]? = w.heap[g]? ∧ (if v'.ownBlock = some g then xs'.length * z else h g) = h g ∧ ((v'.ownBlock ≠ some g) ∧ Q g p) := by
    intro P Q q1 q2 g p hp
    obtain ⟨k1, k2⟩ := q1 g p hp
    have hlt := r.hr.lt g k1
    have hne : v'.ownBlock ≠ some g := by
      intro e
      rcases hat with q | q | q
      · rw [q] at e; cases e
      · rw [q] at e; exact k2 e
      · rw [q] at e; injection e with e; omega
    exact ⟨hgrow.block g hlt (fun e => k2 e.symm), by rw [if_neg hne], hne, q2 g p hp⟩
  have hfr : Fr w h ow w' (fun b => if v'.ownBlock = some b then xs'.length * z else h b) (fun b => if v'.ownBlock = some b then some (.tmp [d]) else ow b) :=
    ⟨hst, hgrow.size, hgrow.os, hgrow.tape, hgrow.output, fun b hb ho => by
      have k2 : v.ownBlock ≠ some b := fun e => by
        obtain ⟨ts, _, q⟩ := hvo b e
        rw [ho] at q; cases q
      have hne : v'.ownBlock ≠ some b := by
        intro e
        rcases hat with q | q | q
        · rw [q] at e; cases e
        · rw [q] at e; exact k2 e
        · rw [q] at e; injection e with e; omega
      exact ⟨hgrow.block b hb (fun e => k2 e.symm), by rw [if_neg hne], by rw [if_neg hne]; exact ho⟩⟩
  refine ⟨r.glob.fr hfr, r.fr.trans hfr, ⟨?_, fun i bx b g1 g2 hne => ?_, fun g hg => ?_, fun b hb => ?_⟩, r.defers, by simpa [Act.put] using r.size, fun i => ?_, fun i hi => ?_, r.pre⟩
  · cases own? <;> simp [St.put, r.hr.len]
  · have g1 : s.hp[i]? = some bx := by cases own? <;> simpa [St.put] using g1
    obtain ⟨p1, p2, cs, T, hh, hl0, hrr⟩ := r.hr.box i bx b g1 g2 hne
    have hnv : v.ownBlock ≠ some b := fun e => by
      obtain ⟨ts, _, q⟩ := hvo b e
      rw [p1] at q; cases q
    have hb := hO (fun g _ => g = b) (fun _ _ => True) (fun g p e => by rw [e, p1]; exact ⟨by simp, hnv⟩) (fun _ _ _ => trivial) b [] rfl
    refine ⟨by rw [if_neg hb.2.2.1]; exact p1, by rw [if_neg hb.2.2.1]; exact p2, cs, T, by rw [hb.1]; exact hh, hl0, ?_⟩
    refine RepDs.step hst (fun _ _ h => h) bx _ _ 0 _ (fun g p ho => ?_) hrr
    have := hO (fun g p => ow g = some (.cell (i :: p))) (fun g p => ow g = some (.cell (i :: p))) (fun g p e => ⟨by rw [e]; simp, fun e' => by
      obtain ⟨ts, _, q⟩ := hvo g e'
      rw [e] at q; cases q⟩) (fun _ _ h => h) g p ho
    exact ⟨this.1, this.2.1, by rw [if_neg this.2.2.1]; exact this.2.2.2⟩
  · by_cases q : v'.ownBlock = some g
    · exact hnew g q
    · rw [if_neg q] at hg
      exact Nat.lt_of_lt_of_le (r.hr.lt g hg) hgrow.size
  · have : v'.ownBlock ≠ some b := fun e => absurd (hnew b e) (Nat.not_lt_of_le hb)
    rw [if_neg this]
    exact r.hr.hz b (Nat.le_trans hgrow.size hb)
  · rw [getD_put a d _ i hd']
    have hold : RepD w' (fun b => if v'.ownBlock = some b then xs'.length * z else h b) ρ ((s.put own? .un).tm i) (fun g p => (if v'.ownBlock = some g then some (.tmp [d]) else ow g) = some (.tmp (i :: p))) (a.tmps.getD i undef) := by
      have main : (∀ ts, own? = some ts → i ≠ ts) → RepD w' (fun b => if v'.ownBlock = some b then xs'.length * z else h b) ρ (s.tm i) (fun g p => (if v'.ownBlock = some g then some (.tmp [d]) else ow g) = some (.tmp (i :: p))) (a.tmps.getD i undef) := by
        intro hne
        refine RepD.step hst (fun _ _ h => h) _ _ _ _ (fun g p ho => ?_) (r.tm i)
        have := hO (fun g p => ow g = some (.tmp (i :: p))) (fun g p => ow g = some (.tmp (i :: p))) (fun g p e => ⟨by rw [e]; simp, fun e' => by
          obtain ⟨ts, q1, q⟩ := hvo g e'
          rw [e] at q
          injection q with q; injection q with q; injection q with q q3
          exact hne ts q1 q⟩) (fun _ _ h => h) g p ho
        exact ⟨this.1, this.2.1, by rw [if_neg this.2.2.1]; exact this.2.2.2⟩
      cases own? with
      | none => exact main (fun ts e => by cases e)
      | some ts =>
        simp only [St.put]
        by_cases hit : i = ts
        · rw [if_pos hit]; simp only [RepD]
        · rw [if_neg hit]; exact main (fun ts' e => by injection e with e; subst e; exact hit)
    by_cases hid : i = d
    · rw [if_pos hid]
      simp only [St.put]
      rw [if_pos hid]
      simp only [RepD]
      refine ⟨vals', h0z, hown, hx, RepRows.mono hst xs' _ _ _ (fun _ _ => rfl) rfl hr, h1, fun g hg => ?_⟩
      simp only []
      rw [if_pos hg, if_pos hg]
      exact ⟨rfl, by rw [hid]⟩
    · rw [if_neg hid]
      have : ((s.put own? .un).put (some d) (.own e z xs')).tm i = (s.put own? .un).tm i := by simp only [St.put]; rw [if_neg hid]
      rw [this]; exact hold
  · have hne : i ≠ d := fun e => by rw [e] at hi; exact absurd hi (Nat.not_le_of_gt hd)
    have : ((s.put own? .un).put (some d) (.own e z xs')).tm i = (s.put own? .un).tm i := by simp only [St.put]; rw [if_neg hne]
    rw [this]
    cases own? with
    | none => exact r.dom i hi
    | some ts =>
      simp only [St.put]
      split
      · rfl
      · exact r.dom i hi

theorem appendD_ok {C w0 h0 ow0 r0 n o c s s'} (hop : o.op = .call c) (hd : dstOk n o.dst = true) (e : appendD C.P o c s = some s') : StepOK C w0 h0 ow0 r0 n o s s' := by
  intro a w h ow ρ r K Q hK
  obtain ⟨callee, args, types⟩ := c
  unfold appendD at e
  split at e
  · rename_i hc
    dsimp only at hc e
    subst hc
    split at e
    · rename_i x y t t' ha ht'
      have ha : args = #[x, y] := by rw [← Array.toArray_toList (xs := args), ha]
      have ht' : types = #[t, t'] := by rw [← Array.toArray_toList (xs := types), ht']
      subst ha; subst ht'
      split at e
      · rename_i el hts
        split at e
        · rename_i z by_ zv d hz hby hzv hdst
          split at e
          · rename_i xs own? ys hbase hmore
            split at e
            · rename_i hcond
              obtain ⟨rfl, h0z, hzz, hb, hm⟩ := hcond
              injection e with e; subst e
              -- what is appended
              have hy : Rep w h (.sl z ys) (a.eval y) := by
                unfold appMore at hmore
                split at hmore
                · rename_i hy
                  injection hmore with hmore; subst hmore
                  have := evalD_rep r hy
                  simp only [RepD] at this
                  simp only [Rep]; exact .inl ⟨trivial, none, 0, this, fun _ => rfl⟩
                · rename_i d' _ hy
                  split at hmore
                  · rename_i z' ys' he
                    split at hmore
                    · rename_i hzz'
                      injection hmore with hmore; subst hmore; subst hzz'
                      exact elems_rep he (evalD_rep r hy)
                    · cases hmore
                  · cases hmore
                · cases hmore
              -- what it is appended to
              have hxo : ∃ vals, w.ownsRow 0 el z (a.eval x) xs.length vals ∧ (∀ q ∈ xs, q.length = z) ∧ RepRows w h xs (fun j => vals[j]?) ∧ (∀ u ∈ vals, u.oneCell' = true) ∧
                  (∀ g, (a.eval x).ownBlock = some g → h g = xs.length * z) ∧ (∀ g, (a.eval x).ownBlock = some g → ∃ ts, own? = some ts ∧ ow g = some (.tmp [ts])) := by
                unfold appBase at hbase
                split at hbase
                · rename_i e' z' xs' hx
                  split at hbase
                  · rename_i ts
                    split at hbase
                    · rename_i hez
                      obtain ⟨rfl, rfl⟩ := hez
                      injection hbase with hbase; injection hbase with q1 q2; subst q1; subst q2
                      have := evalD_rep r hx
                      simp only [RepD] at this
                      obtain ⟨vals, k1, k2, k3, k4, k5, k6⟩ := this
                      exact ⟨vals, k2, k3, k4, k5, fun g hg => (k6 g hg).1, fun g hg => ⟨ts, rfl, (k6 g hg).2⟩⟩
                    · cases hbase
                  · cases hbase
                · rename_i hx
                  injection hbase with hbase; injection hbase with q1 q2; subst q1; subst q2
                  have := evalD_rep r hx
                  simp only [RepD] at this
                  rw [this]
                  exact ⟨[], ⟨by simp, .inl ⟨rfl, rfl⟩⟩, by simp, by simp only [RepRows], by simp, by simp [Value.ownBlock], by simp [Value.ownBlock]⟩
                · cases hbase
              obtain ⟨vals, k1, k2, k3, k4, k5, k6⟩ := hxo
              obtain ⟨v', w', vals', q1, q2, q3, q4, q5, q6, q7, q8, q9, q10⟩ := append_core hts hz hby hzv h0z hzz o.type k1 k2 k3 k4 k5 r.hr.hz hy hb hm
              unfold Oper.wp
              have hrun : (execOp a.eval o).run C.P w = .ok (.value v') w' := by
                simp [execOp, hop, resolve, invoke, builtin, q1]
              rw [hrun]
              show K (a.put o.dst v') w'
              rw [hdst] at hd ⊢
              refine hK _ _ _ _ _ (r.appended own? d (by simpa [dstOk] using hd) k6 q6 q8 q10 h0z q2 q3 q4 q5 q7 fun g hg => ?_)
              rcases q7 with q | q | q
              · rw [q] at hg; cases hg
              · rw [q] at hg
                rw [k5 g hg]
                exact Nat.mul_le_mul_right _ (by simp)
              · rw [q] at hg; injection hg with hg
                rw [r.hr.hz g (by omega)]; exact Nat.zero_le _
            · cases e
          · cases e
        · cases e
      · cases e
    · cases e
  · cases e

/-! ### buildSlice -/
def pds : List DV → Option (List PD)
  | [] => some []
  | .p x :: ds => (pds ds).map (x :: ·)
  | .own _ z xs :: ds => (pds ds).map (.sl z xs :: ·)
  | _ => none
theorem pds_rep {w h ρ} : ∀ {ds : List DV} {ps : List PD} {O k} {vs : List Value}, pds ds = some ps → RepDs w h ρ ds O k vs → RepRow w h ps (fun j => vs[j]?) ∧ ps.length = ds.length
  | [], ps, O, k, vs, e, r => by simp only [pds, Option.some.injEq] at e; subst e; simp [RepRow]
  | d :: ds, ps, O, k, vs, e, r => by
    simp only [RepDs] at r
    obtain ⟨v, rest, rfl, h1, h2⟩ := r
    cases d <;> simp only [pds] at e <;> first
      | (obtain ⟨qs, e1, e2⟩ := Option.map_eq_some_iff.1 e
         subst e2
         obtain ⟨i1, i2⟩ := pds_rep e1 h2
         refine ⟨?_, by simp [i2]⟩
         simp only [RepRow]
         refine ⟨⟨v, by simp, ?_⟩, by simpa using i1⟩
         simp only [RepD] at h1
         first | exact h1 | exact h1.freeze)
      | cases e
def rowsD (P : Program) (s : St) (e z : Nat) : Nat → List (Nat × Operand) → Option (List (List PD))
  | _, [] => some []
  | k, (i, x) :: rest => if i = k then (match evalD s x with
    | some v => match flat v with
      | some cs => match pds (coerCells P (tcells P e) cs) with
        | some row => if row.length = z then (rowsD P s e z (k + 1) rest).map (row :: ·) else none
        | none => none
      | none => none
    | none => none) else none
def buildSliceD (P : Program) (o : Oper) (t : TypeId) (len : Nat) (parts : List (Nat × Operand)) (s : St) : Option St :=
  match tslice P t, o.dst with
  | some e, some d => match tsz P e, tzero P e with
    | some z, some zv => match rowsD P s e z 0 parts with
      | some rows => if rows.length = len ∧ len * z ≤ 2 ^ 24 ∧ 0 < z ∧ zv.cells.size = z then some (s.put (some d) (.own e z rows)) else none
      | none => none
    | _, _ => none
  | _, _ => none

theorem foldl_splice : ∀ (vs : List Value) (k off : Nat) (cells : Array Value), off + k + vs.length ≤ cells.size →
    ((vs.zipIdx k).foldl (fun (cs : Array Value) (x : Value × Nat) => cs.setIfInBounds (off + x.2) x.1) cells).toList = cells.toList.take (off + k) ++ vs ++ cells.toList.drop (off + k + vs.length)
  | [], k, off, cells, h => by simp
  | v :: vs, k, off, cells, h => by
    simp only [List.zipIdx_cons, List.foldl_cons, List.length_cons] at h ⊢
    rw [foldl_splice vs (k + 1) off _ (by simp; omega)]
    have hlt : off + k < cells.toList.length := by simp; omega
    simp only [Array.toList_setIfInBounds]
    rw [List.take_set, List.drop_set]
    have e1 : off + (k + 1) = off + k + 1 := by omega
    rw [e1, List.take_succ_eq_append_getElem hlt, if_pos (by omega)]
    have e2 : (cells.toList.take (off + k) ++ [cells.toList[off + k]]).set (off + k) v = cells.toList.take (off + k) ++ [v] := by
      rw [List.set_append_right _ _ (by simp; omega)]
      simp only [List.length_take]
      have : off + k - min (off + k) cells.toList.length = 0 := by omega
      rw [this]; rfl
    rw [e2]
    simp only [List.append_assoc, List.singleton_append]
    congr 3
    omega
theorem foldl_cells (v : Value) (off : Nat) (cells : Array Value) (h : off + v.cells.size ≤ cells.size) :
    (v.cells.zipIdx.foldl (fun cs (c, j) => cs.setIfInBounds (off + j) c) cells).toList = cells.toList.take off ++ v.cells.toList ++ cells.toList.drop (off + v.cells.size) := by
  have := foldl_splice v.cells.toList 0 off cells (by simpa using h)
  rw [← Array.foldl_toList, Array.toList_zipIdx]
  simpa using this

theorem rows_fill {C w0 h0 ow0 r0 n s a w h ow ρ} (r : Rel C w0 h0 ow0 r0 n s a w h ow ρ) {e z : Nat} : ∀ (parts : List (Nat × Operand)) (k : Nat) (rows : List (List PD)) (cells : Array Value),
    rowsD C.P s e z k parts = some rows → cells.size = (k + rows.length) * z →
    ∃ vals : List Value, Instr.fill (fun i => some (i * z, z)) cells (parts.map fun p => (p.1, a.eval p.2)) = some (cells.toList.take (k * z) ++ vals).toArray ∧
      vals.length = rows.length * z ∧ (∀ x ∈ rows, x.length = z) ∧ RepRows w h rows (fun j => vals[j]?) ∧ ∀ u ∈ vals, u.oneCell' = true
  | [], k, rows, cells, e1, hs => by
    simp only [rowsD, Option.some.injEq] at e1
    subst e1
    simp only [List.length_nil, Nat.add_zero] at hs
    refine ⟨[], ?_, by simp, by simp, by simp only [RepRows], by simp⟩
    simp only [List.map_nil, Instr.fill, List.append_nil]
    rw [List.take_of_length_le (by simp [hs]), Array.toArray_toList]
  | (i, x) :: rest, k, rows, cells, e1, hs => by
    simp only [rowsD] at e1
    split at e1
    · rename_i hik
      subst hik
      split at e1
      · rename_i v hv
        split at e1
        · rename_i cs hf
          split at e1
          · rename_i row hrow
            split at e1
            · rename_i hrz
              obtain ⟨rows', h1, h2⟩ := Option.map_eq_some_iff.1 e1
              subst h2
              obtain ⟨O', hr, _⟩ := flat_rep hf (evalD_rep r hv)
              have hrep := RepDs.wk (coerCells_wk C.P (tcells C.P e) cs) hr
              obtain ⟨k1, k2⟩ := pds_rep hrow hrep
              have hcl : (a.eval x).cells.size = z := by
                have := hrep.length
                simp only [Array.length_toList] at this
                omega
              simp only [List.length_cons] at hs
              have hfit : i * z + (a.eval x).cells.size ≤ cells.size := by
                rw [hs, hcl]
                have : (i + 1) * z ≤ (i + (rows'.length + 1)) * z := Nat.mul_le_mul_right _ (by omega)
                rw [Nat.add_mul, Nat.one_mul] at this; exact this
              have hfold := foldl_cells (a.eval x) (i * z) cells hfit
              have hsz : ((a.eval x).cells.zipIdx.foldl (fun cs (c, j) => cs.setIfInBounds (i * z + j) c) cells).size = cells.size := by
                rw [← Array.length_toList, hfold]
                simp; omega
              obtain ⟨vals, q1, q2, q3, q4, q5⟩ := rows_fill r rest (i + 1) rows' _ h1 (by rw [hsz, hs]; congr 1; omega)
              refine ⟨(a.eval x).cells.toList ++ vals, ?_, ?_, ?_, ?_, ?_⟩
              · simp only [List.map_cons, Instr.fill]
                rw [if_neg (by simp [hcl]; omega), q1, hfold]
                congr 2
                have : (i + 1) * z = i * z + z := by rw [Nat.add_mul, Nat.one_mul]
                rw [this, List.take_append_of_le_length (by simp; omega), List.take_of_length_le (by simp; omega), List.append_assoc]
              · simp only [List.length_append, q2, Array.length_toList, hcl, List.length_cons, Nat.add_mul, Nat.one_mul]; omega
              · intro y hy
                rcases List.mem_cons.1 hy with q | q
                · rw [q]; exact hrz
                · exact q3 y q
              · simp only [RepRows]
                refine ⟨RepRow.mono (Stable.refl w h) row _ _ row.length (fun j hj => ?_) (Nat.le_refl _) k1, RepRows.mono (Stable.refl w h) rows' _ _ _ (fun j hj => ?_) rfl q4⟩
                · rw [List.getElem?_append_left (by simp; omega)]
                · rw [List.getElem?_append_right (by simp; omega)]
                  congr 1
                  simp; omega
              · intro u hu
                rcases List.mem_append.1 hu with q | q
                · obtain ⟨j, hj⟩ := List.mem_iff_getElem?.1 q
                  have hjl : j < row.length := by
                    have := (List.getElem?_eq_some_iff.1 hj).1
                    simp at this; omega
                  obtain ⟨u', p1, p2⟩ := k1.get j row[j] (List.getElem?_eq_getElem hjl)
                  rw [hj] at p1; injection p1 with p1; subst p1
                  exact pd_one p2
                · exact q5 u q
            · cases e1
          · cases e1
        · cases e1
      · cases e1
    · cases e1
end Go.Proofs.Dm
