/- Part of the proof: contracts of the functions, walked by the D-machine. No condition. -/
import Derived.Test.YtmlhdhpjcipcdaaGreatDoorDc
import Derived.Laws.OwnMore
set_option linter.unusedVariables false
set_option linter.unusedSimpArgs false
namespace Go.Proofs.Dm
open Go Go.RowKit
theorem Rel.appended {C w0 h0 ow0 r0 n s a w h ow ρ} (r : Rel C w0 h0 ow0 r0 n s a w h ow ρ) (own? : Option Tmp) (d : Nat) (hd : d < n) {v v' : Value} {w' : World} {e z : Nat} {xs' : List (List PD)} {vals' : List Value}
    (hvo : ∀ g, v.ownBlock = some g → ∃ ts, own? = some ts ∧ ow g = some (.tmp [ts])) (hgrow : w.grownBy w' v.ownBlock)
    (stab : ∀ b i, i < h b → w'.cell? ⟨b, i, none⟩ = w.cell? ⟨b, i, none⟩)
    (ksz : ∀ (b : Nat) (cs : Array Value) (T : TypeId) (f : Nat × Nat), w.heap[b]? = some (.cells cs T f) → ∃ cs' f', w'.heap[b]? = some (.cells cs' T f') ∧ cs'.size = cs.size) (h0z : 0 < z) (hown : w'.ownsRow 0 e z v' xs'.length vals') (hx : ∀ x ∈ xs', x.length = z)
    (hr : RepRows w h xs' (fun j => vals'[j]?)) (h1 : ∀ u ∈ vals', u.oneCell' = true) (hat : v'.ownBlock = none ∨ v'.ownBlock = v.ownBlock ∨ v'.ownBlock = some w.heap.size)
    (hle : ∀ g, v'.ownBlock = some g → h g ≤ xs'.length * z) :
    Rel C w0 h0 ow0 r0 n ((s.put own? .un).put (some d) (.own e z xs')) (a.put (some d) v') w' (fun b => if v'.ownBlock = some b then xs'.length * z else h b)
      (fun b => if v'.ownBlock = some b then some (.tmp [d]) else ow b) ρ := by
  have hd' : d < a.tmps.size := by rw [r.size]; exact hd
  have hst : Stable w h w' (fun b => if v'.ownBlock = some b then xs'.length * z else h b) := ⟨fun b => by
    show h b ≤ if _ then _ else _
    split
    · rename_i q; exact hle b q
    · exact Nat.le_refl _, stab, ksz⟩
  have hnew : ∀ g, v'.ownBlock = some g → g < w'.heap.size := by
    intro g hg
    rcases hown.2 with ⟨rfl, _⟩ | ⟨g', cap, cur, rfl, _, hh, _⟩
    · simp [Value.ownBlock] at hg
    · have : g' = g := by simpa [Value.ownBlock] using hg
      subst this
      exact (Array.getElem?_eq_some_iff.1 hh).1
  -- whoever else owns keeps
  have hO : ∀ (P Q : Nat → List Nat → Prop), (∀ g p, P g p → ow g ≠ none ∧ v.ownBlock ≠ some g) → (∀ g p, P g p → Q g p) →
      ∀ g p, P g p → w'.heap[g]? = w.heap[g]? ∧ (if v'.ownBlock = some g then xs'.length * z else h g) = h g ∧ ((v'.ownBlock ≠ some g) ∧ Q g p) := by
    intro P Q q1 q2 g p hp
    obtain ⟨k1, k2⟩ := q1 g p hp
    have hlt := r.hr.lt g k1
    have hne : v'.ownBlock ≠ some g := by
      intro e
      rcases hat with q | q | q
      · rw [q] at e; cases e
      · rw [q] at e; exact k2 e
      · rw [q] at e; injection e with e; omega
    exact ⟨hgrow.block g hlt (fun e => k2 e.symm), by rw [if_neg hne], hne, q2 g p hp⟩
  have hfr : Fr w h ow w' (fun b => if v'.ownBlock = some b then xs'.length * z else h b) (fun b => if v'.ownBlock = some b then some (.tmp [d]) else ow b) :=
    ⟨hst, hgrow.size, hgrow.os, hgrow.tape, hgrow.output, fun b hb ho => by
      have k2 : v.ownBlock ≠ some b := fun e => by
        obtain ⟨ts, _, q⟩ := hvo b e
        rw [ho] at q; cases q
      have hne : v'.ownBlock ≠ some b := by
        intro e
        rcases hat with q | q | q
        · rw [q] at e; cases e
        · rw [q] at e; exact k2 e
        · rw [q] at e; injection e with e; omega
      exact ⟨hgrow.block b hb (fun e => k2 e.symm), by rw [if_neg hne], by rw [if_neg hne]; exact ho⟩⟩
  refine ⟨r.glob.fr hfr, r.fr.trans hfr, ⟨?_, fun i bx b g1 g2 hne => ?_, fun g hg => ?_, fun b hb => ?_⟩, r.defers, by simpa [Act.put] using r.size, fun i => ?_, fun i hi => ?_, r.pre⟩
  · cases own? <;> simp [St.put, r.hr.len]
  · have g1 : s.hp[i]? = some bx := by cases own? <;> simpa [St.put] using g1
    obtain ⟨p1, p2, cs, T, hh, hl0, hrr⟩ := r.hr.box i bx b g1 g2 hne
    have hnv : v.ownBlock ≠ some b := fun e => by
      obtain ⟨ts, _, q⟩ := hvo b e
      rw [p1] at q; cases q
    have hb := hO (fun g _ => g = b) (fun _ _ => True) (fun g p e => by rw [e, p1]; exact ⟨by simp, hnv⟩) (fun _ _ _ => trivial) b [] rfl
    refine ⟨by rw [if_neg hb.2.2.1]; exact p1, by rw [if_neg hb.2.2.1]; exact p2, cs, T, by rw [hb.1]; exact hh, hl0, ?_⟩
    refine RepDs.step hst (fun _ _ h => h) bx _ _ 0 _ (fun g p ho => ?_) hrr
    have := hO (fun g p => ow g = some (.cell (i :: p))) (fun g p => ow g = some (.cell (i :: p))) (fun g p e => ⟨by rw [e]; simp, fun e' => by
      obtain ⟨ts, _, q⟩ := hvo g e'
      rw [e] at q; cases q⟩) (fun _ _ h => h) g p ho
    exact ⟨this.1, this.2.1, by rw [if_neg this.2.2.1]; exact this.2.2.2⟩
  · by_cases q : v'.ownBlock = some g
    · exact hnew g q
    · rw [if_neg q] at hg
      exact Nat.lt_of_lt_of_le (r.hr.lt g hg) hgrow.size
  · have : v'.ownBlock ≠ some b := fun e => absurd (hnew b e) (Nat.not_lt_of_le hb)
    rw [if_neg this]
    exact r.hr.hz b (Nat.le_trans hgrow.size hb)
  · rw [getD_put a d _ i hd']
    have hold : RepD w' (fun b => if v'.ownBlock = some b then xs'.length * z else h b) ρ ((s.put own? .un).tm i) (fun g p => (if v'.ownBlock = some g then some (.tmp [d]) else ow g) = some (.tmp (i :: p))) (a.tmps.getD i undef) := by
      have main : (∀ ts, own? = some ts → i ≠ ts) → RepD w' (fun b => if v'.ownBlock = some b then xs'.length * z else h b) ρ (s.tm i) (fun g p => (if v'.ownBlock = some g then some (.tmp [d]) else ow g) = some (.tmp (i :: p))) (a.tmps.getD i undef) := by
        intro hne
        refine RepD.step hst (fun _ _ h => h) _ _ _ _ (fun g p ho => ?_) (r.tm i)
        have := hO (fun g p => ow g = some (.tmp (i :: p))) (fun g p => ow g = some (.tmp (i :: p))) (fun g p e => ⟨by rw [e]; simp, fun e' => by
          obtain ⟨ts, q1, q⟩ := hvo g e'
          rw [e] at q
          injection q with q; injection q with q; injection q with q q3
          exact hne ts q1 q⟩) (fun _ _ h => h) g p ho
        exact ⟨this.1, this.2.1, by rw [if_neg this.2.2.1]; exact this.2.2.2⟩
      cases own? with
      | none => exact main (fun ts e => by cases e)
      | some ts =>
        simp only [St.put]
        by_cases hit : i = ts
        · rw [if_pos hit]; simp only [RepD]
        · rw [if_neg hit]; exact main (fun ts' e => by injection e with e; subst e; exact hit)
    by_cases hid : i = d
    · rw [if_pos hid]
      simp only [St.put]
      rw [if_pos hid]
      simp only [RepD]
      refine ⟨vals', h0z, hown, hx, RepRows.mono hst xs' _ _ _ (fun _ _ => rfl) rfl hr, h1, fun g hg => ?_⟩
      simp only []
      rw [if_pos hg, if_pos hg]
      exact ⟨rfl, by rw [hid]⟩
    · rw [if_neg hid]
      have : ((s.put own? .un).put (some d) (.own e z xs')).tm i = (s.put own? .un).tm i := by simp only [St.put]; rw [if_neg hid]
      rw [this]; exact hold
  · have hne : i ≠ d := fun e => by rw [e] at hi; exact absurd hi (Nat.not_le_of_gt hd)
    have : ((s.put own? .un).put (some d) (.own e z xs')).tm i = (s.put own? .un).tm i := by simp only [St.put]; rw [if_neg hne]
    rw [this]
    cases own? with
    | none => exact r.dom i hi
    | some ts =>
      simp only [St.put]
      split
      · rfl
      · exact r.dom i hi
theorem appendD_ok {C w0 h0 ow0 r0 n o c s s'} (hop : o.op = .call c) (hd : dstOk n o.dst = true) (e : appendD C.P o c s = some s') : StepOK C w0 h0 ow0 r0 n o s s' := by
  intro a w h ow ρ r K Q hK
  obtain ⟨callee, args, types⟩ := c
  unfold appendD at e
  split at e
  · rename_i hc
    dsimp only at hc e
    subst hc
    split at e
    · rename_i x y t t' ha ht'
      have ha : args = #[x, y] := by rw [← Array.toArray_toList (xs := args), ha]
      have ht' : types = #[t, t'] := by rw [← Array.toArray_toList (xs := types), ht']
      subst ha; subst ht'
      split at e
      · rename_i el hts
        split at e
        · rename_i z by_ zv d hz hby hzv hdst
          split at e
          · rename_i xs own? ys hbase hmore
            split at e
            · rename_i hcond
              obtain ⟨h0z, hzz, hb, hm⟩ := hcond
              injection e with e; subst e
              -- what is appended
              have hy : t = t' → Rep w h (.sl z ys) (a.eval y) := by
                intro htt
                unfold appMoreT at hmore
                rw [if_pos htt] at hmore
                unfold appMore at hmore
                split at hmore
                · rename_i hy
                  injection hmore with hmore; subst hmore
                  have := evalD_rep r hy
                  simp only [RepD] at this
                  simp only [Rep]; exact .inl ⟨trivial, none, 0, this, fun _ => rfl⟩
                · rename_i d' _ hy
                  split at hmore
                  · rename_i z' ys' he
                    split at hmore
                    · rename_i hzz'
                      injection hmore with hmore; subst hmore; subst hzz'
                      exact elems_rep he (evalD_rep r hy)
                    · cases hmore
                  · cases hmore
                · cases hmore
              -- what it is appended to
              have hxo : ∃ vals, w.ownsRow 0 el z (a.eval x) xs.length vals ∧ (∀ q ∈ xs, q.length = z) ∧ RepRows w h xs (fun j => vals[j]?) ∧ (∀ u ∈ vals, u.oneCell' = true) ∧
                  (∀ g, (a.eval x).ownBlock = some g → h g = xs.length * z) ∧ (∀ g, (a.eval x).ownBlock = some g → ∃ ts, own? = some ts ∧ ow g = some (.tmp [ts])) := by
                unfold appBase at hbase
                split at hbase
                · rename_i e' z' xs' hx
                  split at hbase
                  · rename_i ts
                    split at hbase
                    · rename_i hez
                      obtain ⟨rfl, rfl⟩ := hez
                      injection hbase with hbase; injection hbase with q1 q2; subst q1; subst q2
                      have := evalD_rep r hx
                      simp only [RepD] at this
                      obtain ⟨vals, k1, k2, k3, k4, k5, k6⟩ := this
                      exact ⟨vals, k2, k3, k4, k5, fun g hg => (k6 g hg).1, fun g hg => ⟨ts, rfl, (k6 g hg).2⟩⟩
                    · cases hbase
                  · cases hbase
                · rename_i hx
                  injection hbase with hbase; injection hbase with q1 q2; subst q1; subst q2
                  have := evalD_rep r hx
                  simp only [RepD] at this
                  rw [this]
                  exact ⟨[], ⟨by simp, .inl ⟨rfl, rfl⟩⟩, by simp, by simp only [RepRows], by simp, by simp [Value.ownBlock], by simp [Value.ownBlock]⟩
                · cases hbase
              obtain ⟨vals, k1, k2, k3, k4, k5, k6⟩ := hxo
              obtain ⟨v', w', vals', q1, q2, q3, q4, q5, q6, q7, q8, q9, q10⟩ : ∃ v' w' vals', (Builtin.append_ #[t, t'] o.type #[a.eval x, a.eval y]).run C.P w = .ok v' w' ∧ w'.ownsRow 0 el z v' (xs ++ ys).length vals' ∧ (∀ x ∈ xs ++ ys, x.length = z) ∧ RepRows w h (xs ++ ys) (fun j => vals'[j]?) ∧
                  (∀ u ∈ vals', u.oneCell' = true) ∧ w.grownBy w' (a.eval x).ownBlock ∧ (v'.ownBlock = none ∨ v'.ownBlock = (a.eval x).ownBlock ∨ v'.ownBlock = some w.heap.size) ∧
                  (∀ b i, i < h b → w'.cell? ⟨b, i, none⟩ = w.cell? ⟨b, i, none⟩) ∧ (v'.ownBlock = none → (a.eval x).ownBlock = none) ∧
                  (∀ (b : Nat) (cs : Array Value) (T : TypeId) (f : Nat × Nat), w.heap[b]? = some (.cells cs T f) → ∃ cs' f', w'.heap[b]? = some (.cells cs' T f') ∧ cs'.size = cs.size) := by
                by_cases htt : t = t'
                · have hy2 := hy htt
                  subst htt
                  exact append_core hts hz hby hzv h0z hzz o.type k1 k2 k3 k4 k5 r.hr.hz hy2 hb hm
                · unfold appMoreT at hmore
                  rw [if_neg htt] at hmore
                  split at hmore
                  · rename_i b hyb
                    split at hmore
                    · rename_i hc2
                      obtain ⟨c1, rfl, rfl⟩ := hc2
                      injection hmore with hmore; subst hmore
                      have := evalD_rep r hyb
                      simp only [RepD, Rep] at this
                      rw [this]
                      exact append_core_str hts c1 hz hby hzv hzz b o.type k1 k2 k3 k4 k5 r.hr.hz hb hm
                    · cases hmore
                  · cases hmore
              unfold Oper.wp
              have hrun : (execOp a.eval o).run C.P w = .ok (.value v') w' := by
                simp [execOp, hop, resolve, invoke, builtin, q1]
              rw [hrun]
              show K (a.put o.dst v') w'
              rw [hdst] at hd ⊢
              refine hK _ _ _ _ _ (r.appended own? d (by simpa [dstOk] using hd) k6 q6 q8 q10 h0z q2 q3 q4 q5 q7 fun g hg => ?_)
              rcases q7 with q | q | q
              · rw [q] at hg; cases hg
              · rw [q] at hg
                rw [k5 g hg]
                exact Nat.mul_le_mul_right _ (by simp)
              · rw [q] at hg; injection hg with hg
                rw [r.hr.hz g (by omega)]; exact Nat.zero_le _
            · cases e
          · cases e
        · cases e
      · cases e
    · cases e
  · cases e
def pds : List DV → Option (List PD)
  | [] => some []
  | .p x :: ds => (pds ds).map (x :: ·)
  | .own _ z xs :: ds => (pds ds).map (.sl z xs :: ·)
  | _ => none
theorem pds_rep {w h ρ} : ∀ {ds : List DV} {ps : List PD} {O k} {vs : List Value}, pds ds = some ps → RepDs w h ρ ds O k vs → RepRow w h ps (fun j => vs[j]?) ∧ ps.length = ds.length
  | [], ps, O, k, vs, e, r => by simp only [pds, Option.some.injEq] at e; subst e; simp [RepRow]
  | d :: ds, ps, O, k, vs, e, r => by
    simp only [RepDs] at r
    obtain ⟨v, rest, rfl, h1, h2⟩ := r
    cases d <;> simp only [pds] at e <;> first
      | (obtain ⟨qs, e1, e2⟩ := Option.map_eq_some_iff.1 e
         subst e2
         obtain ⟨i1, i2⟩ := pds_rep e1 h2
         refine ⟨?_, by simp [i2]⟩
         simp only [RepRow]
         refine ⟨⟨v, by simp, ?_⟩, by simpa using i1⟩
         simp only [RepD] at h1
         first | exact h1 | exact h1.freeze)
      | cases e
def rowsD (P : Program) (s : St) (e z : Nat) : Nat → List (Nat × Operand) → Option (List (List PD))
  | _, [] => some []
  | k, (i, x) :: rest => if i = k then (match evalD s x with
    | some v => match flat v with
      | some cs => match pds (coerCells P (tcells P e) cs) with
        | some row => if row.length = z then (rowsD P s e z (k + 1) rest).map (row :: ·) else none
        | none => none
      | none => none
    | none => none) else none
def ownD (e z : Nat) : List (List PD) → DV
  | [] => .mt e z
  | r :: rs => .own e z (r :: rs)
theorem ownD_wk (e z : Nat) (rs : List (List PD)) : Wk (.own e z rs) (ownD e z rs) := by
  cases rs with
  | nil => exact .ownmt e z
  | cons r rs => exact .refl _
def buildSliceD (P : Program) (o : Oper) (t : TypeId) (len : Nat) (parts : List (Nat × Operand)) (s : St) : Option St :=
  match tslice P t, o.dst with
  | some e, some d => match tsz P e, tzero P e with
    | some z, some zv => match rowsD P s e z 0 parts with
      | some rows => if rows.length = len ∧ len * z ≤ 2 ^ 24 ∧ 0 < z ∧ zv.cells.size = z then some (s.put (some d) (ownD e z rows)) else none
      | none => none
    | _, _ => none
  | _, _ => none
theorem foldl_splice : ∀ (vs : List Value) (k off : Nat) (cells : Array Value), off + k + vs.length ≤ cells.size →
    ((vs.zipIdx k).foldl (fun (cs : Array Value) (x : Value × Nat) => cs.setIfInBounds (off + x.2) x.1) cells).toList = cells.toList.take (off + k) ++ vs ++ cells.toList.drop (off + k + vs.length)
  | [], k, off, cells, h => by simp
  | v :: vs, k, off, cells, h => by
    simp only [List.zipIdx_cons, List.foldl_cons, List.length_cons] at h ⊢
    rw [foldl_splice vs (k + 1) off _ (by simp; omega)]
    have hlt : off + k < cells.toList.length := by simp; omega
    simp only [Array.toList_setIfInBounds]
    rw [List.take_set, List.drop_set]
    have e1 : off + (k + 1) = off + k + 1 := by omega
    rw [e1, List.take_succ_eq_append_getElem hlt, if_pos (by omega)]
    have e2 : (cells.toList.take (off + k) ++ [cells.toList[off + k]]).set (off + k) v = cells.toList.take (off + k) ++ [v] := by
      rw [List.set_append_right _ _ (by simp; omega)]
      simp only [List.length_take]
      have : off + k - min (off + k) cells.toList.length = 0 := by omega
      rw [this]; rfl
    rw [e2]
    simp only [List.append_assoc, List.singleton_append]
    congr 3
    omega
theorem foldl_cells (v : Value) (off : Nat) (cells : Array Value) (h : off + v.cells.size ≤ cells.size) :
    (v.cells.zipIdx.foldl (fun cs (c, j) => cs.setIfInBounds (off + j) c) cells).toList = cells.toList.take off ++ v.cells.toList ++ cells.toList.drop (off + v.cells.size) := by
  have := foldl_splice v.cells.toList 0 off cells (by simpa using h)
  rw [← Array.foldl_toList, Array.toList_zipIdx]
  simpa using this
theorem rows_fill {C w0 h0 ow0 r0 n s a w h ow ρ} (r : Rel C w0 h0 ow0 r0 n s a w h ow ρ) {e z : Nat} : ∀ (parts : List (Nat × Operand)) (k : Nat) (rows : List (List PD)) (cells : Array Value),
    rowsD C.P s e z k parts = some rows → cells.size = (k + rows.length) * z →
    ∃ vals : List Value, Instr.fill (fun i => some (i * z, z)) cells (parts.map fun p => (p.1, a.eval p.2)) = some (cells.toList.take (k * z) ++ vals).toArray ∧
      vals.length = rows.length * z ∧ (∀ x ∈ rows, x.length = z) ∧ RepRows w h rows (fun j => vals[j]?) ∧ ∀ u ∈ vals, u.oneCell' = true
  | [], k, rows, cells, e1, hs => by
    simp only [rowsD, Option.some.injEq] at e1
    subst e1
    simp only [List.length_nil, Nat.add_zero] at hs
    refine ⟨[], ?_, by simp, by simp, by simp only [RepRows], by simp⟩
    simp only [List.map_nil, Instr.fill, List.append_nil]
    rw [List.take_of_length_le (by simp [hs]), Array.toArray_toList]
  | (i, x) :: rest, k, rows, cells, e1, hs => by
    simp only [rowsD] at e1
    split at e1
    · rename_i hik
      subst hik
      split at e1
      · rename_i v hv
        split at e1
        · rename_i cs hf
          split at e1
          · rename_i row hrow
            split at e1
            · rename_i hrz
              obtain ⟨rows', h1, h2⟩ := Option.map_eq_some_iff.1 e1
              subst h2
              obtain ⟨O', hr, _⟩ := flat_rep hf (evalD_rep r hv)
              have hrep := RepDs.wk (coerCells_wk C.P (tcells C.P e) cs) hr
              obtain ⟨k1, k2⟩ := pds_rep hrow hrep
              have hcl : (a.eval x).cells.size = z := by
                have := hrep.length
                simp only [Array.length_toList] at this
                omega
              simp only [List.length_cons] at hs
              have hfit : i * z + (a.eval x).cells.size ≤ cells.size := by
                rw [hs, hcl]
                have : (i + 1) * z ≤ (i + (rows'.length + 1)) * z := Nat.mul_le_mul_right _ (by omega)
                rw [Nat.add_mul, Nat.one_mul] at this; exact this
              have hfold := foldl_cells (a.eval x) (i * z) cells hfit
              have hsz : ((a.eval x).cells.zipIdx.foldl (fun cs (c, j) => cs.setIfInBounds (i * z + j) c) cells).size = cells.size := by
                rw [← Array.length_toList, hfold]
                simp; omega
              obtain ⟨vals, q1, q2, q3, q4, q5⟩ := rows_fill r rest (i + 1) rows' _ h1 (by rw [hsz, hs]; congr 1; omega)
              refine ⟨(a.eval x).cells.toList ++ vals, ?_, ?_, ?_, ?_, ?_⟩
              · simp only [List.map_cons, Instr.fill]
                rw [if_neg (by simp [hcl]; omega), q1, hfold]
                congr 2
                have : (i + 1) * z = i * z + z := by rw [Nat.add_mul, Nat.one_mul]
                rw [this, List.take_append_of_le_length (by simp; omega), List.take_of_length_le (by simp; omega), List.append_assoc]
              · simp only [List.length_append, q2, Array.length_toList, hcl, List.length_cons, Nat.add_mul, Nat.one_mul]; omega
              · intro y hy
                rcases List.mem_cons.1 hy with q | q
                · rw [q]; exact hrz
                · exact q3 y q
              · simp only [RepRows]
                refine ⟨RepRow.mono (Stable.refl w h) row _ _ row.length (fun j hj => ?_) (Nat.le_refl _) k1, RepRows.mono (Stable.refl w h) rows' _ _ _ (fun j hj => ?_) rfl q4⟩
                · rw [List.getElem?_append_left (by simp; omega)]
                · rw [List.getElem?_append_right (by simp; omega)]
                  congr 1
                  simp; omega
              · intro u hu
                rcases List.mem_append.1 hu with q | q
                · obtain ⟨j, hj⟩ := List.mem_iff_getElem?.1 q
                  have hjl : j < row.length := by
                    have := (List.getElem?_eq_some_iff.1 hj).1
                    simp at this; omega
                  obtain ⟨u', p1, p2⟩ := k1.get j row[j] (List.getElem?_eq_getElem hjl)
                  rw [hj] at p1; injection p1 with p1; subst p1
                  exact pd_one p2
                · exact q5 u q
            · cases e1
          · cases e1
        · cases e1
      · cases e1
    · cases e1
end Go.Proofs.Dm

set_option linter.unusedVariables false
set_option linter.unusedSimpArgs false
namespace Go.Proofs.Dm
open Go Go.RowKit
def flatP (xs : List (List PD)) : List DV := xs.flatMap fun r => r.map .p
theorem flatP_cons (x : List PD) (xs : List (List PD)) : flatP (x :: xs) = x.map .p ++ flatP xs := rfl
theorem flatP_rep {w h ρ} : ∀ {xs : List (List PD)} {vs : List Value}, (xs.map List.length).sum = vs.length → RepRows w h xs (fun j => vs[j]?) → ∀ O k, RepDs w h ρ (flatP xs) O k vs
  | [], vs, hl, r, O, k => by
    have : vs = [] := List.eq_nil_of_length_eq_zero (by simpa using hl.symm)
    subst this; simp [flatP, RepDs]
  | x :: xs, vs, hl, r, O, k => by
    simp only [List.map_cons, List.sum_cons] at hl
    simp only [RepRows] at r
    have h1 : RepDs w h ρ (x.map DV.p) O k (vs.take x.length) := by
      refine RepDs.of_get (by simp; omega) fun i d v hd hv => ?_
      rw [List.getElem?_map] at hd
      obtain ⟨c, hc, rfl⟩ := Option.map_eq_some_iff.1 hd
      obtain ⟨u, q1, q2⟩ := r.1.get i c hc
      have hi := (List.getElem?_eq_some_iff.1 hc).1
      rw [List.getElem?_take, if_pos hi, q1] at hv
      injection hv with hv; subst hv
      simp only [RepD]; exact q2
    have h2 := flatP_rep (ρ := ρ) (xs := xs) (vs := vs.drop x.length) (by simp; omega) (RepRows.mono (Stable.refl w h) xs _ _ _ (fun j hj => by rw [List.getElem?_drop]) rfl r.2) O (k + x.length)
    rw [flatP_cons]
    have := RepDs.append h1 (by simpa using h2)
    rwa [List.take_append_drop] at this
theorem flatP_len : ∀ {xs : List (List PD)} {z : Nat}, (∀ x ∈ xs, x.length = z) → (flatP xs).length = xs.length * z
  | [], z, h => by simp [flatP]
  | x :: xs, z, h => by
    rw [flatP_cons, List.length_append, List.length_map, h x (by simp), flatP_len (fun y hy => h y (by simp [hy])), List.length_cons, Nat.add_mul, Nat.one_mul]; omega
def killB (hp : List (List DV)) : Option Nat → List (List DV)
  | none => hp
  | some i => hp.set i []
theorem Rel.arrived {C w0 h0 ow0 r0 n s a w h ow ρ} (r : Rel C w0 h0 ow0 r0 n s a w h ow ρ) (own? : Option Tmp) (old? : Option Nat) (d : Nat) (hd : d < n) (g : Nat) {w' : World} {cs : Array Value} {T : TypeId} {box : List DV} {z k : Nat} {v : Value}
    (hg : w.heap.size ≤ g ∨ (∃ ts, own? = some ts ∧ ow g = some (.tmp [ts])) ∨ ∃ id, old? = some id ∧ ow g = some (.box id))
    (hgn : ∀ b, b < w.heap.size → b ≠ g → w'.heap[b]? = w.heap[b]?) (hsize : w.heap.size ≤ w'.heap.size) (hgs : g < w'.heap.size) (hos : w'.os = w.os) (htape : w'.tape = w.tape) (hout : w'.output = w.output)
    (hold : ∀ id, old? = some id → id < s.hp.length)
    (ksz : ∀ (cs0 : Array Value) (T0 : TypeId) (f : Nat × Nat), w.heap[g]? = some (.cells cs0 T0 f) → cs0.size = cs.size ∧ T0 = T)
    (hh : w'.heap[g]? = some (.cells cs T (0, 0))) (hl : box.length ≤ cs.size) (hb : ∀ O k, RepDs w h ρ box O k (cs.toList.take box.length)) (hmark : h g = 0)
    (hv : (k = 0 ∧ ∃ a c, v = .slice a 0 c ∧ (a = none → c = 0)) ∨ ∃ cap, k ≤ cap ∧ v = .slice (some ⟨g, 0, none⟩) k cap ∧ cap * z ≤ cs.size) :
    Rel C w0 h0 ow0 r0 n ({ (s.put own? .un).put (some d) (.arr s.hp.length 0 z k) with hp := killB s.hp old? ++ [box] }) (a.put (some d) v) w' h
      (fun b => if b = g then some (.box ρ.length) else ow b) (ρ ++ [g]) := by
  have hd' : d < a.tmps.size := by rw [r.size]; exact hd
  have hst : Stable w h w' h := ⟨fun _ => Nat.le_refl _, fun b i hi => by
    have hlt : b < w.heap.size := by
      rcases Nat.lt_or_ge b w.heap.size with q | q
      · exact q
      · rw [r.hr.hz b q] at hi; omega
    have hne : b ≠ g := fun e => by rw [e, hmark] at hi; omega
    simp only [World.cell?, hgn b hlt hne], fun b cs0 T0 f0 q => by
      by_cases hbg : b = g
      · subst hbg
        obtain ⟨k1, k2⟩ := ksz cs0 T0 f0 q
        exact ⟨cs, _, by rw [k2]; exact hh, k1.symm⟩
      · exact ⟨cs0, f0, by rw [hgn b (Array.getElem?_eq_some_iff.1 q).1 hbg]; exact q, rfl⟩⟩
  have hgow : ∀ q, ow g = some q → (∃ ts, own? = some ts ∧ q = .tmp [ts]) ∨ ∃ id, old? = some id ∧ q = .box id := by
    intro q hq
    rcases hg with e | ⟨ts, e1, e2⟩ | ⟨id, e1, e2⟩
    · exact absurd (r.hr.lt g (by rw [hq]; simp)) (Nat.not_lt_of_le e)
    · rw [hq] at e2; injection e2 with e2; exact .inl ⟨ts, e1, e2⟩
    · rw [hq] at e2; injection e2 with e2; exact .inr ⟨id, e1, e2⟩
  have hO : ∀ (P : Nat → List Nat → Prop) (Q : Nat → List Nat → Prop), (∀ q p, P q p → ow q ≠ none ∧ q ≠ g) → (∀ q p, P q p → Q q p) →
      ∀ q p, P q p → w'.heap[q]? = w.heap[q]? ∧ h q = h q ∧ (q ≠ g ∧ Q q p) := by
    intro P Q h1 h2 q p hp
    obtain ⟨k1, k2⟩ := h1 q p hp
    exact ⟨hgn q (r.hr.lt q k1) k2, rfl, k2, h2 q p hp⟩
  have hρ : ∀ (i b : Nat), ρ[i]? = some b → (ρ ++ [g])[i]? = some b := fun i b hi => by
    rw [List.getElem?_append_left (List.getElem?_eq_some_iff.1 hi).1]; exact hi
  have hfr : Fr w h ow w' h (fun b => if b = g then some (.box ρ.length) else ow b) :=
    ⟨hst, hsize, hos, htape, hout, fun b hb ho => by
      have hne : b ≠ g := by
        intro e; subst e
        rcases hg with e | ⟨ts, e1, e2⟩ | ⟨id, e1, e2⟩
        · omega
        · rw [ho] at e2; cases e2
        · rw [ho] at e2; cases e2
      exact ⟨hgn b hb hne, rfl, by rw [if_neg hne]; exact ho⟩⟩
  have hcellne : ∀ q i p, ow q = some (.cell (i :: p)) → q ≠ g := by
    intro q i p hq e
    subst e
    rcases hgow _ hq with ⟨ts, _, e⟩ | ⟨id, _, e⟩ <;> cases e
  refine ⟨r.glob.fr hfr, r.fr.trans hfr, ⟨?_, fun id bx b h1 h2 hne => ?_, fun q hq => ?_, fun b hb => r.hr.hz b (by omega)⟩, r.defers, by simpa [Act.put] using r.size, fun i => ?_, fun i hi => ?_, by obtain ⟨ex, hex⟩ := r.pre; exact ⟨ex ++ [g], by rw [hex, List.append_assoc]⟩⟩
  · cases old? <;> simp [killB, r.hr.len]
  · have hkl : (killB s.hp old?).length = s.hp.length := by cases old? <;> simp [killB]
    by_cases hid : id < s.hp.length
    · rw [List.getElem?_append_left (by rw [hkl]; exact hid)] at h1
      rw [List.getElem?_append_left (by rw [← r.hr.len]; exact hid)] at h2
      have hnold : old? ≠ some id := by
        intro e
        subst e
        simp only [killB] at h1
        rw [List.getElem?_set_self hid] at h1
        injection h1 with h1; exact hne h1.symm
      have h1' : s.hp[id]? = some bx := by
        cases old? with
        | none => exact h1
        | some j =>
          simp only [killB] at h1
          rw [List.getElem?_set_ne (fun e => hnold (by rw [e]))] at h1
          exact h1
      obtain ⟨p, q, cs', T', hh', hl', hrr⟩ := r.hr.box id bx b h1' h2 hne
      have hbne : b ≠ g := by
        intro e; subst e
        rcases hgow _ p with ⟨ts, _, e⟩ | ⟨id', e1, e⟩
        · cases e
        · injection e with e; subst e; exact hnold e1
      have hblt := r.hr.lt b (by rw [p]; simp)
      refine ⟨by rw [if_neg hbne]; exact p, q, cs', T', by rw [hgn b hblt hbne]; exact hh', hl', ?_⟩
      refine RepDs.step hst hρ bx _ _ 0 _ (fun q p ho => ?_) hrr
      have := hO (fun q p => ow q = some (.cell (id :: p))) (fun q p => ow q = some (.cell (id :: p))) (fun q p ho => ⟨by rw [ho]; simp, hcellne q id p ho⟩) (fun _ _ h => h) q p ho
      exact ⟨this.1, this.2.1, by rw [if_neg this.2.2.1]; exact this.2.2.2⟩
    · have hid' : id = (killB s.hp old?).length := by
        have := (List.getElem?_eq_some_iff.1 h1).1
        simp at this; omega
      subst hid'
      simp only [List.getElem?_concat_length, Option.some.injEq] at h1
      subst h1
      rw [hkl, r.hr.len] at h2
      simp only [List.getElem?_concat_length, Option.some.injEq] at h2
      subst h2
      refine ⟨by simp [hkl, r.hr.len], hmark, cs, T, hh, hl, ?_⟩
      exact RepDs.step hst hρ box (fun _ _ => False) _ 0 _ (fun q p hf => hf.elim) (hb _ 0)
  · by_cases hqg : q = g
    · subst hqg; exact hgs
    · rw [if_neg hqg] at hq
      exact Nat.lt_of_lt_of_le (r.hr.lt q hq) hsize
  · rw [getD_put a d _ i hd']
    have hset : ({ (s.put own? .un).put (some d) (.arr s.hp.length 0 z k) with hp := killB s.hp old? ++ [box] } : St).tm i = if i = d then .arr s.hp.length 0 z k else (s.put own? .un).tm i := by
      simp [St.put]
    rw [hset]
    by_cases hid : i = d
    · rw [if_pos hid, if_pos hid]
      simp only [RepD]
      refine ⟨g, by rw [r.hr.len]; simp, ?_⟩
      rcases hv with q | ⟨cap, q1, q2, q3⟩
      · exact .inl q
      · exact .inr ⟨cap, cs, T, _, q1, q2, hh, by omega⟩
    · rw [if_neg hid, if_neg hid]
      have main : (∀ ts, own? = some ts → i ≠ ts) → RepD w' h (ρ ++ [g]) (s.tm i) (fun q p => (if q = g then some (.box ρ.length) else ow q) = some (.tmp (i :: p))) (a.tmps.getD i undef) := by
        intro hne
        refine RepD.step hst hρ _ _ _ _ (fun q p ho => ?_) (r.tm i)
        have := hO (fun q p => ow q = some (.tmp (i :: p))) (fun q p => ow q = some (.tmp (i :: p))) (fun q p ho => ⟨by rw [ho]; simp, fun e => by
          subst e
          rcases hgow _ ho with ⟨ts, e1, e⟩ | ⟨id, _, e⟩
          · injection e with e; injection e with e e3; exact hne ts e1 e
          · cases e⟩) (fun _ _ h => h) q p ho
        exact ⟨this.1, this.2.1, by rw [if_neg this.2.2.1]; exact this.2.2.2⟩
      cases own? with
      | none => exact main (fun ts e => by cases e)
      | some ts =>
        simp only [St.put]
        by_cases hit : i = ts
        · rw [if_pos hit]; simp only [RepD]
        · rw [if_neg hit]; exact main (fun ts' e => by injection e with e; subst e; exact hit)
  · have hne : i ≠ d := fun e => by rw [e] at hi; exact absurd hi (Nat.not_le_of_gt hd)
    have hset : ({ (s.put own? .un).put (some d) (.arr s.hp.length 0 z k) with hp := killB s.hp old? ++ [box] } : St).tm i = (s.put own? .un).tm i := by
      simp only [St.put]; rw [if_neg hne]
    rw [hset]
    cases own? with
    | none => exact r.dom i hi
    | some ts =>
      simp only [St.put]
      split
      · rfl
      · exact r.dom i hi
end Go.Proofs.Dm

set_option linter.unusedVariables false
set_option linter.unusedSimpArgs false
namespace Go.Proofs.Dm
open Go Go.RowKit
theorem hasOwns_get : ∀ {ds : List DV}, hasOwns ds = false → ∀ (i : Nat) (d : DV), ds[i]? = some d → hasOwn d = false
  | [], _, i, d, h => by simp at h
  | d' :: ds, hs, 0, d, h => by simp only [hasOwns, Bool.or_eq_false_iff] at hs; simp at h; subst h; exact hs.1
  | d' :: ds, hs, i + 1, d, h => by simp only [hasOwns, Bool.or_eq_false_iff] at hs; exact hasOwns_get hs.2 i d (by simpa using h)
theorem RepDs.free_any {w h ρ ds O k vs} (r : RepDs w h ρ ds O k vs) (hn : hasOwns ds = false) (O' : Nat → List Nat → Prop) (k' : Nat) : RepDs w h ρ ds O' k' vs := by
  refine RepDs.of_get r.length fun i d v hd hv => ?_
  obtain ⟨v', h1, h2⟩ := r.get i d hd
  rw [h1] at hv; injection hv with hv; subst hv
  exact RepD.free _ _ _ _ (hasOwns_get hn i d hd) h2
theorem zeroCells_rep {P t cs} (e : zeroCells P t = some cs) : ∃ zv, tzero P t = some zv ∧ ∀ {w h ρ} O, RepDs w h ρ cs O 0 zv.cells.toList := by
  unfold zeroCells at e
  split at e
  · rename_i z hz
    split at e
    · rename_i d hd
      obtain ⟨ds, h1, h2⟩ := Option.map_eq_some_iff.1 e
      subst h2
      refine ⟨z, hz, fun {w h ρ} O => RepDs.wk (coerCells_wk _ _ _) ?_⟩
      obtain ⟨O', hr, hO'⟩ := flat_rep h1 (constD_rep (w := w) (h := h) (ρ := ρ) (O := fun _ _ => False) hd)
      refine RepDs.of_get hr.length fun i d v hd hv => ?_
      obtain ⟨v', q1, q2⟩ := hr.get i d hd
      rw [q1] at hv; injection hv with hv; subst hv
      exact q2.rename fun g p ho => (hO' g (0 + i) p ho).elim
    · cases e
  · cases e
theorem zeroCellsT_rep {P t cs} (e : zeroCellsT P t = some cs) : ∃ zv, tzero P t = some zv ∧ ∀ {w h ρ} O, RepDs w h ρ cs O 0 zv.cells.toList := by
  unfold zeroCellsT at e
  split at e
  · rename_i z hz
    split at e
    · rename_i d hd
      obtain ⟨ds, h1, h2⟩ := Option.map_eq_some_iff.1 e
      subst h2
      refine ⟨z, hz, fun {w h ρ} O => RepDs.wk (coerT_wk _ _ _) ?_⟩
      obtain ⟨O', hr, hO'⟩ := flat_rep h1 (constD_rep (w := w) (h := h) (ρ := ρ) (O := fun _ _ => False) hd)
      refine RepDs.of_get hr.length fun i d v hd hv => ?_
      obtain ⟨v', q1, q2⟩ := hr.get i d hd
      rw [q1] at hv; injection hv with hv; subst hv
      exact q2.rename fun g p ho => (hO' g (0 + i) p ho).elim
    · cases e
  · cases e
def makeSliceD (P : Program) (o : Oper) (t : TypeId) (l c : Operand) (s : St) : Option St :=
  match tslice P t, o.dst, evalD s l, evalD s c with
  | some e, some d, some (.p (.int _ n)), some (.p (.int _ n')) => match tsz P e, tbytes P e, zeroCells P e with
    | some z, some by_, some zc => if n = n' ∧ 0 ≤ n ∧ zc.length = z ∧ 0 < z ∧ by_ * n.toNat ≤ 281474976710656 ∧ n.toNat ≤ maxLen ∧ hasOwns zc = false then
        some { s.put (some d) (.arr s.hp.length 0 z n.toNat) with hp := s.hp ++ [(List.replicate n.toNat zc).flatten] } else none
    | _, _, _ => none
  | _, _, _, _ => none
theorem flat_rep_get {α : Type} (zc : List α) (z : Nat) (hz : zc.length = z) : ∀ (n j : Nat), j < n * z → ((List.replicate n zc).flatten)[j]? = zc[j % z]?
  | 0, j, h => by simp at h
  | n + 1, j, h => by
    rw [List.replicate_succ, List.flatten_cons]
    by_cases hj : j < z
    · rw [List.getElem?_append_left (by omega), Nat.mod_eq_of_lt hj]
    · have h' : j - z < n * z := by rw [Nat.add_mul, Nat.one_mul] at h; omega
      rw [List.getElem?_append_right (by omega), hz, flat_rep_get zc z hz n (j - z) h']
      congr 1
      exact (Nat.mod_eq_sub_mod (by omega)).symm
theorem makeSliceD_ok {C w0 h0 ow0 r0 n o t l c s s'} (hop : o.op = .makeSlice t l c) (hd : dstOk n o.dst = true) (e : makeSliceD C.P o t l c s = some s') : StepOK C w0 h0 ow0 r0 n o s s' := by
  intro a w h ow ρ r K Q hK
  unfold makeSliceD at e
  split at e
  · rename_i el d k1 nn k2 nn' hts hdst hl hc
    split at e
    · rename_i z by_ zc hz hby hzc
      split at e
      · rename_i hcond
        obtain ⟨rfl, h0n, hzl, h0z, hbytes, hmax, hown⟩ := hcond
        injection e with e; subst e
        obtain ⟨zv, hzv, hzr⟩ := zeroCells_rep hzc
        have hl' := evalD_rep r hl
        have hc' := evalD_rep r hc
        simp only [RepD, Rep] at hl' hc'
        have hu := tslice_spec hts
        obtain ⟨i, hi1, hi2⟩ := Option.map_eq_some_iff.1 hz
        obtain ⟨i', hi1', hi3⟩ := Option.map_eq_some_iff.1 hby
        obtain ⟨i'', hi1'', hi4⟩ := Option.bind_eq_some_iff.1 hzv
        rw [hi1] at hi1' hi1''
        injection hi1' with q; subst q
        injection hi1'' with q; subst q
        obtain ⟨w', q1, q2, q3⟩ := run_make_full (P := C.P) w 0 t el i zv z hu hi1 hi4 hi2 k1 k2 nn.toNat (by rw [hi3]; exact hbytes) hmax (Nat.zero_le _)
        have hnn : ((nn.toNat : Nat) : Int) = nn := by omega
        rw [hnn] at q1
        have hrun : (execOp a.eval o).run C.P w = .ok (.value (.slice (some ⟨w.heap.size, 0, none⟩) nn.toNat nn.toNat)) w' := by
          simp only [execOp, hop, hl', hc', Sem.run_bind, q1, Result.andThen_ok, Sem.run_pure]
        unfold Oper.wp
        rw [hrun]
        show K (a.put o.dst _) _
        rw [hdst] at hd ⊢
        have hzcl : zv.cells.toList.length = z := by rw [(hzr (w := w) (h := h) (ρ := ρ) (fun _ _ => False)).length, hzl]
        rcases q2.2 with ⟨hbad, _⟩ | ⟨g, cap, cur, hv, _, hh, hnc, hcm, hcs, htake⟩
        · cases hbad
        injection hv with e1 e2 e3
        injection e1 with e1
        injection e1 with e1
        subst e1; subst e3
        have hbl : ((List.replicate nn.toNat zc).flatten).length = nn.toNat * z := by
          simp [List.length_flatten, hzl]
        refine hK _ _ _ _ _ (r.arrived none none d (by simpa [dstOk] using hd) w.heap.size (cs := cur) (T := el) (.inl (Nat.le_refl _)) (fun b hb hne => q3.block b hb (by simp)) q3.size
          (by have := (Array.getElem?_eq_some_iff.1 hh).1; exact this) q3.os q3.tape q3.output (fun id q => by cases q) (fun cs0 T0 f0 q => by have := (Array.getElem?_eq_some_iff.1 q).1; omega) hh (by rw [hbl, hcs]; exact Nat.le_refl _) (fun O k => ?_) (r.hr.hz _ (Nat.le_refl _)) (.inr ⟨_, Nat.le_refl _, rfl, by rw [hcs]; exact Nat.le_refl _⟩))
        rw [hbl, htake]
        have hml : (madeCells zv.cells (nn.toNat * z)).toList.length = nn.toNat * z := q2.1
        refine RepDs.of_get (by rw [hml, hbl]) fun j dd v hdj hvj => ?_
        have hj : j < nn.toNat * z := by rw [← hbl]; exact (List.getElem?_eq_some_iff.1 hdj).1
        rw [flat_rep_get zc z hzl _ j hj] at hdj
        obtain ⟨v', p1, p2⟩ := (hzr (w := w) (h := h) (ρ := ρ) (fun _ _ => False)).get (j % z) dd hdj
        have hvj2 : (madeCells zv.cells (nn.toNat * z)).toList[j]? = some v := hvj
        have hve : v = v' := by
          have hjm : j % z < zv.cells.size := by have := (List.getElem?_eq_some_iff.1 p1).1; simpa using this
          have hsz : zv.cells.size = z := by simpa using hzcl
          have p1' : zv.cells[j % z]? = some v' := by rw [← Array.getElem?_toList]; exact p1
          simp only [madeCells] at hvj2
          rw [Array.getElem?_toList] at hvj2
          simp [Array.getElem?_map, hj, hsz] at hvj2
          rw [getElem!_def, p1'] at hvj2
          exact hvj2.symm
        subst hve
        exact RepD.free _ _ _ _ (hasOwns_get hown _ _ hdj) p2
      · cases e
    · cases e
  · cases e
end Go.Proofs.Dm
