/- Part of the proof: contracts of the functions, walked by the D-machine. No condition. -/
import Derived.Test.YtmbnkgagicgcoaaDoorDc
import Derived.Laws.OwnMore
set_option linter.unusedVariables false
set_option linter.unusedSimpArgs false
namespace Go.Proofs.Dm
open Go Go.RowKit

def flatP (xs : List (List PD)) : List DV := xs.flatMap fun r => r.map .p
theorem flatP_cons (x : List PD) (xs : List (List PD)) : flatP (x :: xs) = x.map .p ++ flatP xs := rfl
theorem flatP_rep {w h ρ} : ∀ {xs : List (List PD)} {vs : List Value}, (xs.map List.length).sum = vs.length → RepRows w h xs (fun j => vs[j]?) → ∀ O k, RepDs w h ρ (flatP xs) O k vs
  | [], vs, hl, r, O, k => by
    have : vs = [] := List.eq_nil_of_length_eq_zero (by simpa using hl.symm)
    subst this; simp [flatP, RepDs]
  | x :: xs, vs, hl, r, O, k => by
    simp only [List.map_cons, List.sum_cons] at hl
    simp only [RepRows] at r
    have h1 : RepDs w h ρ (x.map DV.p) O k (vs.take x.length) := by
      refine RepDs.of_get (by simp; omega) fun i d v hd hv => ?_
      rw [List.getElem?_map] at hd
      obtain ⟨c, hc, rfl⟩ := Option.map_eq_some_iff.1 hd
      obtain ⟨u, q1, q2⟩ := r.1.get i c hc
      have hi := (List.getElem?_eq_some_iff.1 hc).1
      rw [List.getElem?_take, if_pos hi, q1] at hv
      injection hv with hv; subst hv
      simp only [RepD]; exact q2
    have h2 := flatP_rep (ρ := ρ) (xs := xs) (vs := vs.drop x.length) (by simp; omega) (RepRows.mono (Stable.refl w h) xs _ _ _ (fun j hj => by rw [List.getElem?_drop]) rfl r.2) O (k + x.length)
    rw [flatP_cons]
    have := RepDs.append h1 (by simpa using h2)
    rwa [List.take_append_drop] at this
theorem flatP_len : ∀ {xs : List (List PD)} {z : Nat}, (∀ x ∈ xs, x.length = z) → (flatP xs).length = xs.length * z
  | [], z, h => by simp [flatP]
  | x :: xs, z, h => by
    rw [flatP_cons, List.length_append, List.length_map, h x (by simp), flatP_len (fun y hy => h y (by simp [hy])), List.length_cons, Nat.add_mul, Nat.one_mul]; omega

def killB (hp : List (List DV)) : Option Nat → List (List DV)
  | none => hp
  | some i => hp.set i []

/-- A block is a new box, d its slice: it is new, or was owned by a slot, or was a box, which is dead now. -/
theorem Rel.arrived {C w0 h0 ow0 r0 n s a w h ow ρ} (r : Rel C w0 h0 ow0 r0 n s a w h ow ρ) (own? : Option Tmp) (old? : Option Nat) (d : Nat) (hd : d < n) (g : Nat) {w' : World} {cs : Array Value} {T : TypeId} {box : List DV} {z k : Nat} {v : Value}
    (hg : w.heap.size ≤ g ∨ (∃ ts, own? = some ts ∧ ow g = some (.tmp [ts])) ∨ ∃ id, old? = some id ∧ ow g = some (.box id))
    (hgn : ∀ b, b < w.heap.size → b ≠ g → w'.heap[b]? = w.heap[b]?) (hsize : w.heap.size ≤ w'.heap.size) (hgs : g < w'.heap.size) (hos : w'.os = w.os) (htape : w'.tape = w.tape) (hout : w'.output = w.output)
    (hold : ∀ id, old? = some id → id < s.hp.length)
    (ksz : ∀ (cs0 : Array Value) (T : TypeId) (f : Nat × Nat), w.heap[g]? = some (.cells cs0 T f) → cs0.size = cs.size)
    (hh : w'.heap[g]? = some (.cells cs T (0, 0))) (hl : box.length ≤ cs.size) (hb : ∀ O k, RepDs w h ρ box O k (cs.toList.take box.length)) (hmark : h g = 0)
    (hv : (k = 0 ∧ ∃ a c, v = .slice a 0 c ∧ (a = none → c = 0)) ∨ ∃ cap, k ≤ cap ∧ v = .slice (some ⟨g, 0, none⟩) k cap ∧ cap * z ≤ cs.size) :
    Rel C w0 h0 ow0 r0 n ({ (s.put own? .un).put (some d) (.arr s.hp.length 0 z k) with hp := killB s.hp old? ++ [box] }) (a.put (some d) v) w' h
      (fun b => if b = g then some (.box ρ.length) else ow b) (ρ ++ [g]) := by
  have hd' : d < a.tmps.size := by rw [r.size]; exact hd
  have hst : Stable w h w' h := ⟨fun _ => Nat.le_refl _, fun b i hi => by
    have hlt : b < w.heap.size := by
      rcases Nat.lt_or_ge b w.heap.size with q | q
      · exact q
      · rw [r.hr.hz b q] at hi; omega
    have hne : b ≠ g := fun e => by rw [e, hmark] at hi; omega
    simp only [World.cell?, hgn b hlt hne], fun b cs0 T0 f0 q => by
      by_cases hbg : b = g
      · subst hbg; exact ⟨cs, T, _, hh, (ksz cs0 T0 f0 q).symm⟩
      · exact ⟨cs0, T0, f0, by rw [hgn b (Array.getElem?_eq_some_iff.1 q).1 hbg]; exact q, rfl⟩⟩
  have hgow : ∀ q, ow g = some q → (∃ ts, own? = some ts ∧ q = .tmp [ts]) ∨ ∃ id, old? = some id ∧ q = .box id := by
    intro q hq
    rcases hg with e | ⟨ts, e1, e2⟩ | ⟨id, e1, e2⟩
    · exact absurd (r.hr.lt g (by rw [hq]; simp)) (Nat.not_lt_of_le e)
    · rw [hq] at e2; injection e2 with e2; exact .inl ⟨ts, e1, e2⟩
    · rw [hq] at e2; injection e2 with e2; exact .inr ⟨id, e1, e2⟩
  have hO : ∀ (P : Nat → List Nat → Prop) (Q : Nat → List Nat → Prop), (∀ q p, P q p → ow q ≠ none ∧ q ≠ g) → (∀ q p, P q p → Q q p) →
      ∀ q p, P q p → w'.heap[q]? = w.heap[q]? ∧ h q = h q ∧ (q ≠ g ∧ Q q p) := by
    intro P Q h1 h2 q p hp
    obtain ⟨k1, k2⟩ := h1 q p hp
    exact ⟨hgn q (r.hr.lt q k1) k2, rfl, k2, h2 q p hp⟩
  have hρ : ∀ (i b : Nat), ρ[i]? = some b → (ρ ++ [g])[i]? = some b := fun i b hi => by
    rw [List.getElem?_append_left (List.getElem?_eq_some_iff.1 hi).1]; exact hi
  have hfr : Fr w h ow w' h (fun b => if b = g then some (.box ρ.length) else ow b) :=
    ⟨hst, hsize, hos, htape, hout, fun b hb ho => by
      have hne : b ≠ g := by
        intro e; subst e
        rcases hg with e | ⟨ts, e1, e2⟩ | ⟨id, e1, e2⟩
        · omega
        · rw [ho] at e2; cases e2
        · rw [ho] at e2; cases e2
      exact ⟨hgn b hb hne, rfl, by rw [if_neg hne]; exact ho⟩⟩
  have hcellne : ∀ q i p, ow q = some (.cell (i :: p)) → q ≠ g := by
    intro q i p hq e
    subst e
    rcases hgow _ hq with ⟨ts, _, e⟩ | ⟨id, _, e⟩ <;> cases e
  refine ⟨r.glob.fr hfr, r.fr.trans hfr, ⟨?_, fun id bx b h1 h2 hne => ?_, fun q hq => ?_, fun b hb => r.hr.hz b (by omega)⟩, r.defers, by simpa [Act.put] using r.size, fun i => ?_, fun i hi => ?_, by obtain ⟨ex, hex⟩ := r.pre; exact ⟨ex ++ [g], by rw [hex, List.append_assoc]⟩⟩
  · cases old? <;> simp [killB, r.hr.len]
  · have hkl : (killB s.hp old?).length = s.hp.length := by cases old? <;> simp [killB]
    by_cases hid : id < s.hp.length
    · rw [List.getElem?_append_left (by rw [hkl]; exact hid)] at h1
      rw [List.getElem?_append_left (by rw [← r.hr.len]; exact hid)] at h2
      have hnold : old? ≠ some id := by
        intro e
        subst e
        simp only [killB] at h1
        rw [List.getElem?_set_self hid] at h1
        injection h1 with h1; exact hne h1.symm
      have h1' : s.hp[id]? = some bx := by
        cases old? with
        | none => exact h1
        | some j =>
          simp only [killB] at h1
          rw [List.getElem?_set_ne (fun e => hnold (by rw [e]))] at h1
          exact h1
      obtain ⟨p, q, cs', T', hh', hl', hrr⟩ := r.hr.box id bx b h1' h2 hne
      have hbne : b ≠ g := by
        intro e; subst e
        rcases hgow _ p with ⟨ts, _, e⟩ | ⟨id', e1, e⟩
        · cases e
        · injection e with e; subst e; exact hnold e1
      have hblt := r.hr.lt b (by rw [p]; simp)
      refine ⟨by rw [if_neg hbne]; exact p, q, cs', T', by rw [hgn b hblt hbne]; exact hh', hl', ?_⟩
      refine RepDs.step hst hρ bx _ _ 0 _ (fun q p ho => ?_) hrr
      have := hO (fun q p => ow q = some (.cell (id :: p))) (fun q p => ow q = some (.cell (id :: p))) (fun q p ho => ⟨by rw [ho]; simp, hcellne q id p ho⟩) (fun _ _ h => h) q p ho
      exact ⟨this.1, this.2.1, by rw [if_neg this.2.2.1]; exact this.2.2.2⟩
    · have hid' : id = (killB s.hp old?).length := by
        have := (List.getElem?_eq_some_iff.1 h1).1
        simp at this; omega
      subst hid'
      simp only [List.getElem?_concat_length, Option.some.injEq] at h1
      subst h1
      rw [hkl, r.hr.len] at h2
      simp only [List.getElem?_concat_length, Option.some.injEq] at h2
      subst h2
      refine ⟨by simp [hkl, r.hr.len], hmark, cs, T, hh, hl, ?_⟩
      exact RepDs.step hst hρ box (fun _ _ => False) _ 0 _ (fun q p hf => hf.elim) (hb _ 0)
  · by_cases hqg : q = g
    · subst hqg; exact hgs
    · rw [if_neg hqg] at hq
      exact Nat.lt_of_lt_of_le (r.hr.lt q hq) hsize
  · rw [getD_put a d _ i hd']
    have hset : ({ (s.put own? .un).put (some d) (.arr s.hp.length 0 z k) with hp := killB s.hp old? ++ [box] } : St).tm i = if i = d then .arr s.hp.length 0 z k else (s.put own? .un).tm i := by
      simp [St.put]
    rw [hset]
    by_cases hid : i = d
    · rw [if_pos hid, if_pos hid]
      simp only [RepD]
      refine ⟨g, by rw [r.hr.len]; simp, ?_⟩
      rcases hv with q | ⟨cap, q1, q2, q3⟩
      · exact .inl q
      · exact .inr ⟨cap, cs, T, _, q1, q2, hh, by omega⟩
    · rw [if_neg hid, if_neg hid]
      have main : (∀ ts, own? = some ts → i ≠ ts) → RepD w' h (ρ ++ [g]) (s.tm i) (fun q p => (if q = g then some (.box ρ.length) else ow q) = some (.tmp (i :: p))) (a.tmps.getD i undef) := by
        intro hne
        refine RepD.step hst hρ _ _ _ _ (fun q p ho => ?_) (r.tm i)
        have := hO (fun q p => ow q = some (.tmp (i :: p))) (fun q p => ow q = some (.tmp (i :: p))) (fun q p ho => ⟨by rw [ho]; simp, fun e => by
          subst e
          rcases hgow _ ho with ⟨ts, e1, e⟩ | ⟨id, _, e⟩
          · injection e with e; injection e with e e3; exact hne ts e1 e
          · cases e⟩) (fun _ _ h => h) q p ho
        exact ⟨this.1, this.2.1, by rw [if_neg this.2.2.1]; exact this.2.2.2⟩
      cases own? with
      | none => exact main (fun ts e => by cases e)
      | some ts =>
        simp only [St.put]
        by_cases hit : i = ts
        · rw [if_pos hit]; simp only [RepD]
        · rw [if_neg hit]; exact main (fun ts' e => by injection e with e; subst e; exact hit)
  · have hne : i ≠ d := fun e => by rw [e] at hi; exact absurd hi (Nat.not_le_of_gt hd)
    have hset : ({ (s.put own? .un).put (some d) (.arr s.hp.length 0 z k) with hp := killB s.hp old? ++ [box] } : St).tm i = (s.put own? .un).tm i := by
      simp only [St.put]; rw [if_neg hne]
    rw [hset]
    cases own? with
    | none => exact r.dom i hi
    | some ts =>
      simp only [St.put]
      split
      · rfl
      · exact r.dom i hi
end Go.Proofs.Dm

set_option linter.unusedVariables false
set_option linter.unusedSimpArgs false
namespace Go.Proofs.Dm
open Go Go.RowKit

theorem hasOwns_get : ∀ {ds : List DV}, hasOwns ds = false → ∀ (i : Nat) (d : DV), ds[i]? = some d → hasOwn d = false
  | [], _, i, d, h => by simp at h
  | d' :: ds, hs, 0, d, h => by simp only [hasOwns, Bool.or_eq_false_iff] at hs; simp at h; subst h; exact hs.1
  | d' :: ds, hs, i + 1, d, h => by simp only [hasOwns, Bool.or_eq_false_iff] at hs; exact hasOwns_get hs.2 i d (by simpa using h)
theorem RepDs.free_any {w h ρ ds O k vs} (r : RepDs w h ρ ds O k vs) (hn : hasOwns ds = false) (O' : Nat → List Nat → Prop) (k' : Nat) : RepDs w h ρ ds O' k' vs := by
  refine RepDs.of_get r.length fun i d v hd hv => ?_
  obtain ⟨v', h1, h2⟩ := r.get i d hd
  rw [h1] at hv; injection hv with hv; subst hv
  exact RepD.free _ _ _ _ (hasOwns_get hn i d hd) h2

theorem zeroCells_rep {P t cs} (e : zeroCells P t = some cs) : ∃ zv, tzero P t = some zv ∧ ∀ {w h ρ} O, RepDs w h ρ cs O 0 zv.cells.toList := by
  unfold zeroCells at e
  split at e
  · rename_i z hz
    split at e
    · rename_i d hd
      obtain ⟨ds, h1, h2⟩ := Option.map_eq_some_iff.1 e
      subst h2
      refine ⟨z, hz, fun {w h ρ} O => RepDs.wk (coerCells_wk _ _ _) ?_⟩
      obtain ⟨O', hr, hO'⟩ := flat_rep h1 (constD_rep (w := w) (h := h) (ρ := ρ) (O := fun _ _ => False) hd)
      refine RepDs.of_get hr.length fun i d v hd hv => ?_
      obtain ⟨v', q1, q2⟩ := hr.get i d hd
      rw [q1] at hv; injection hv with hv; subst hv
      exact q2.rename fun g p ho => (hO' g (0 + i) p ho).elim
    · cases e
  · cases e

theorem zeroCellsT_rep {P t cs} (e : zeroCellsT P t = some cs) : ∃ zv, tzero P t = some zv ∧ ∀ {w h ρ} O, RepDs w h ρ cs O 0 zv.cells.toList := by
  unfold zeroCellsT at e
  split at e
  · rename_i z hz
    split at e
    · rename_i d hd
      obtain ⟨ds, h1, h2⟩ := Option.map_eq_some_iff.1 e
      subst h2
      refine ⟨z, hz, fun {w h ρ} O => RepDs.wk (coerT_wk _ _ _) ?_⟩
      obtain ⟨O', hr, hO'⟩ := flat_rep h1 (constD_rep (w := w) (h := h) (ρ := ρ) (O := fun _ _ => False) hd)
      refine RepDs.of_get hr.length fun i d v hd hv => ?_
      obtain ⟨v', q1, q2⟩ := hr.get i d hd
      rw [q1] at hv; injection hv with hv; subst hv
      exact q2.rename fun g p ho => (hO' g (0 + i) p ho).elim
    · cases e
  · cases e

/-! ### make -/
def makeSliceD (P : Program) (o : Oper) (t : TypeId) (l c : Operand) (s : St) : Option St :=
  match tslice P t, o.dst, evalD s l, evalD s c with
  | some e, some d, some (.p (.int _ n)), some (.p (.int _ n')) => match tsz P e, tbytes P e, zeroCells P e with
    | some z, some by_, some zc => if n = n' ∧ 0 ≤ n ∧ zc.length = z ∧ 0 < z ∧ by_ * n.toNat ≤ 281474976710656 ∧ n.toNat ≤ maxLen ∧ hasOwns zc = false then
        some { s.put (some d) (.arr s.hp.length 0 z n.toNat) with hp := s.hp ++ [(List.replicate n.toNat zc).flatten] } else none
    | _, _, _ => none
  | _, _, _, _ => none
theorem flat_rep_get {α : Type} (zc : List α) (z : Nat) (hz : zc.length = z) : ∀ (n j : Nat), j < n * z → ((List.replicate n zc).flatten)[j]? = zc[j % z]?
  | 0, j, h => by simp at h
  | n + 1, j, h => by
    rw [List.replicate_succ, List.flatten_cons]
    by_cases hj : j < z
    · rw [List.getElem?_append_left (by omega), Nat.mod_eq_of_lt hj]
    · have h' : j - z < n * z := by rw [Nat.add_mul, Nat.one_mul] at h; omega
      rw [List.getElem?_append_right (by omega), hz, flat_rep_get zc z hz n (j - z) h']
      congr 1
      exact (Nat.mod_eq_sub_mod (by omega)).symm

theorem makeSliceD_ok {C w0 h0 ow0 r0 n o t l c s s'} (hop : o.op = .makeSlice t l c) (hd : dstOk n o.dst = true) (e : makeSliceD C.P o t l c s = some s') : StepOK C w0 h0 ow0 r0 n o s s' := by
  intro a w h ow ρ r K Q hK
  unfold makeSliceD at e
  split at e
  · rename_i el d k1 nn k2 nn' hts hdst hl hc
    split at e
    · rename_i z by_ zc hz hby hzc
      split at e
      · rename_i hcond
        obtain ⟨rfl, h0n, hzl, h0z, hbytes, hmax, hown⟩ := hcond
        injection e with e; subst e
        obtain ⟨zv, hzv, hzr⟩ := zeroCells_rep hzc
        have hl' := evalD_rep r hl
        have hc' := evalD_rep r hc
        simp only [RepD, Rep] at hl' hc'
        have hu := tslice_spec hts
        obtain ⟨i, hi1, hi2⟩ := Option.map_eq_some_iff.1 hz
        obtain ⟨i', hi1', hi3⟩ := Option.map_eq_some_iff.1 hby
        obtain ⟨i'', hi1'', hi4⟩ := Option.bind_eq_some_iff.1 hzv
        rw [hi1] at hi1' hi1''
        injection hi1' with q; subst q
        injection hi1'' with q; subst q
        obtain ⟨w', q1, q2, q3⟩ := run_make_full (P := C.P) w 0 t el i zv z hu hi1 hi4 hi2 k1 k2 nn.toNat (by rw [hi3]; exact hbytes) hmax (Nat.zero_le _)
        have hnn : ((nn.toNat : Nat) : Int) = nn := by omega
        rw [hnn] at q1
        have hrun : (execOp a.eval o).run C.P w = .ok (.value (.slice (some ⟨w.heap.size, 0, none⟩) nn.toNat nn.toNat)) w' := by
          simp only [execOp, hop, hl', hc', Sem.run_bind, q1, Result.andThen_ok, Sem.run_pure]
        unfold Oper.wp
        rw [hrun]
        show K (a.put o.dst _) _
        rw [hdst] at hd ⊢
        have hzcl : zv.cells.toList.length = z := by rw [(hzr (w := w) (h := h) (ρ := ρ) (fun _ _ => False)).length, hzl]
        rcases q2.2 with ⟨hbad, _⟩ | ⟨g, cap, cur, hv, _, hh, hnc, hcm, hcs, htake⟩
        · cases hbad
        injection hv with e1 e2 e3
        injection e1 with e1
        injection e1 with e1
        subst e1; subst e3
        have hbl : ((List.replicate nn.toNat zc).flatten).length = nn.toNat * z := by
          simp [List.length_flatten, hzl]
        refine hK _ _ _ _ _ (r.arrived none none d (by simpa [dstOk] using hd) w.heap.size (cs := cur) (T := el) (.inl (Nat.le_refl _)) (fun b hb hne => q3.block b hb (by simp)) q3.size
          (by have := (Array.getElem?_eq_some_iff.1 hh).1; exact this) q3.os q3.tape q3.output (fun id q => by cases q) (fun cs0 T0 f0 q => by have := (Array.getElem?_eq_some_iff.1 q).1; omega) hh (by rw [hbl, hcs]; exact Nat.le_refl _) (fun O k => ?_) (r.hr.hz _ (Nat.le_refl _)) (.inr ⟨_, Nat.le_refl _, rfl, by rw [hcs]; exact Nat.le_refl _⟩))
        rw [hbl, htake]
        have hml : (madeCells zv.cells (nn.toNat * z)).toList.length = nn.toNat * z := q2.1
        refine RepDs.of_get (by rw [hml, hbl]) fun j dd v hdj hvj => ?_
        have hj : j < nn.toNat * z := by rw [← hbl]; exact (List.getElem?_eq_some_iff.1 hdj).1
        rw [flat_rep_get zc z hzl _ j hj] at hdj
        obtain ⟨v', p1, p2⟩ := (hzr (w := w) (h := h) (ρ := ρ) (fun _ _ => False)).get (j % z) dd hdj
        have hvj2 : (madeCells zv.cells (nn.toNat * z)).toList[j]? = some v := hvj
        have hve : v = v' := by
          have hjm : j % z < zv.cells.size := by have := (List.getElem?_eq_some_iff.1 p1).1; simpa using this
          have hsz : zv.cells.size = z := by simpa using hzcl
          have p1' : zv.cells[j % z]? = some v' := by rw [← Array.getElem?_toList]; exact p1
          simp only [madeCells] at hvj2
          rw [Array.getElem?_toList] at hvj2
          simp [Array.getElem?_map, hj, hsz] at hvj2
          rw [getElem!_def, p1'] at hvj2
          exact hvj2.symm
        subst hve
        exact RepD.free _ _ _ _ (hasOwns_get hown _ _ hdj) p2
      · cases e
    · cases e
  · cases e
end Go.Proofs.Dm

set_option linter.unusedVariables false
set_option linter.unusedSimpArgs false
namespace Go.Proofs.Dm
open Go Go.RowKit

/-- What is copied or appended: its cells, how many elements. -/
def srcC (z : Nat) (s : St) (y : Operand) : Option (List DV × Nat) :=
  match evalD s y with
  | some (.arr id off z' n) => match s.hp[id]? with
    | some box => if z' = z ∧ 0 < n ∧ off + n * z ≤ box.length ∧ box ≠ [] ∧ hasOwns ((box.drop off).take (n * z)) = false ∧ solids ((box.drop off).take (n * z)) = true then some ((box.drop off).take (n * z), n) else none
    | none => none
  | some .nil => some ([], 0)
  | some d => match elems d with
    | some (z', ys) => if z' = z then some (flatP ys, ys.length) else none
    | none => none
  | none => none
theorem srcC_ok {C w0 h0 ow0 r0 n s a w h ow ρ} (r : Rel C w0 h0 ow0 r0 n s a w h ow ρ) {z : Nat} {y : Operand} {src : List DV} {m : Nat} (e : srcC z s y = some (src, m)) :
    ∃ b c vs, a.eval y = .slice b m c ∧ vs.length = m * z ∧ (b = none → m = 0) ∧ (∀ ad, b = some ad → 0 < m → ∀ j u, vs[j]? = some u → w.cell? (ad.add j) = some u) ∧
      (∀ O k, RepDs w h ρ src O k vs) ∧ ∀ u ∈ vs, u.oneCell' = true := by
  unfold srcC at e
  split at e
  · rename_i id off z' n' hy
    split at e
    · rename_i box hb
      split at e
      · rename_i hc
        obtain ⟨rfl, h0, hoff, hne, hown, hsol⟩ := hc
        injection e with e; injection e with e1 e2; subst e1; subst e2
        have hy' := evalD_rep r hy
        simp only [RepD] at hy'
        obtain ⟨b, hρ, ⟨q, _⟩ | ⟨cap, cs0, T0, f0, q1, q2, q3, q4⟩⟩ := hy'
        · omega
        obtain ⟨p1, p2, cs, T, hh, hl0, hrr⟩ := r.hr.box id box b hb hρ hne
        have hdt : ((cs.toList.take box.length).drop off).take (n' * z') = (cs.toList.drop off).take (n' * z') := by
          rw [List.drop_take, List.take_take]; congr 1; omega
        have hsub := repDs_part hrr off (n' * z')
        rw [hdt] at hsub
        have hany : ∀ O k, RepDs w h ρ ((box.drop off).take (n' * z')) O k ((cs.toList.drop off).take (n' * z')) := fun O k => hsub.free_any hown O k
        refine ⟨_, cap, (cs.toList.drop off).take (n' * z'), q2, by simp; omega, (fun q => by cases q), fun ad had _ j u hj => ?_, hany, fun u hu => ?_⟩
        · injection had with had; subst had
          rw [addr_add]
          rw [List.getElem?_take] at hj
          split at hj
          · rw [List.getElem?_drop, Array.getElem?_toList] at hj
            simp [World.cell?, hh, hj]
          · cases hj
        · obtain ⟨i, hi⟩ := List.mem_iff_getElem?.1 hu
          have hil : i < ((box.drop off).take (n' * z')).length := by
            have := (hany (fun _ _ => False) 0).length
            rw [← this]; exact (List.getElem?_eq_some_iff.1 hi).1
          obtain ⟨v', k1, k2⟩ := (hany (fun _ _ => False) 0).get i _ (List.getElem?_eq_getElem hil)
          rw [k1] at hi; injection hi with hi; subst hi
          exact solid_one (solids_get hsol i _ (List.getElem?_eq_getElem hil)) k2
      · cases e
    · cases e
  · rename_i hy
    injection e with e; injection e with e1 e2; subst e1; subst e2
    have hy' := evalD_rep r hy
    simp only [RepD] at hy'
    exact ⟨none, 0, [], hy', by simp, fun _ => rfl, (fun ad had => by cases had), fun O k => by simp only [RepDs], by simp⟩
  · rename_i d _ _ hy
    split at e
    · rename_i z' ys he
      split at e
      · rename_i hz
        subst hz
        injection e with e; injection e with e1 e2; subst e1; subst e2
        have hr := elems_rep he (evalD_rep r hy)
        simp only [Rep] at hr
        rcases hr with ⟨rfl, b, c, hv, hbc⟩ | ⟨g, off, cap, hv, hcap, hh, hzz, rr⟩
        · exact ⟨b, c, [], hv, by simp, fun _ => rfl, fun ad had h0 => by simp at h0, fun O k => by simp [flatP, RepDs], by simp⟩
        · obtain ⟨vs, k1, k2, k3, k4⟩ := rows_vals hzz rr
          exact ⟨_, cap, vs, hv, k1, (fun q => by cases q), fun ad had _ j u hj => by injection had with had; subst had; rw [addr_add]; exact k2 j u hj,
            fun O k => flatP_rep (by rw [rowsLen ys _ hzz, k1]) k3 O k, k4⟩
      · cases e
    · cases e
  · cases e

/-! ### copy -/
def copyD (P : Program) (o : Oper) (c : Call) (s : St) : Option St :=
  match c.args.toList, c.argTypes.toList with
  | [x, y], [t, t'] => match tslice P t with
    | some e => match tsz P e, evalD s x with
      | some z, some (.arr id off z' n) => match s.hp[id]?, srcC z s y with
        | some box, some (src, m) => if min m n = 0 then some (s.put o.dst (.p (.int .i64 0))) else if z' = z ∧ 0 < z ∧ 0 < min m n ∧ off + n * z ≤ box.length ∧ box ≠ [] ∧ hasOwns src = false then
            some ({ s with hp := s.hp.set id (box.take off ++ src.take (min m n * z) ++ box.drop (off + min m n * z)) }.put o.dst (.p (.int .i64 (min m n : Nat)))) else none
        | _, _ => none
      | _, _ => none
    | none => none
  | _, _ => none
theorem copyD_ok {C w0 h0 ow0 r0 n o c s s'} (hop : o.op = .call c) (hcal : c.callee = .builtin .copy) (hd : dstOk n o.dst = true) (e : copyD C.P o c s = some s') : StepOK C w0 h0 ow0 r0 n o s s' := by
  intro a w h ow ρ r K Q hK
  obtain ⟨callee, args, types⟩ := c
  dsimp only at hcal; subst hcal
  unfold copyD at e
  split at e
  · rename_i x y t t' ha ht'
    dsimp only at ha ht'
    obtain rfl : args = #[x, y] := by rw [← Array.toArray_toList (xs := args), ha]
    obtain rfl : types = #[t, t'] := by rw [← Array.toArray_toList (xs := types), ht']
    split at e
    · rename_i el hts
      split at e
      · rename_i z id off z' k hz hx
        split at e
        · rename_i box src m hb hsrc
          split at e
          · rename_i hz0
            injection e with e; subst e
            obtain ⟨b2, c2, vs, hvy, hvl, hbn, hcell, hrep, hone⟩ := srcC_ok r hsrc
            have hx' := evalD_rep r hx
            simp only [RepD] at hx'
            have hload : ∀ (q : Addr), (loadCells q 0).run C.P w = .ok #[] w := fun q => by simpa using run_loadCells_list (P := C.P) w q [] (by simp)
            have hmin : Nat.min m k = 0 := hz0
            have hu := tslice_spec hts
            have main : ∀ (ax : Option Addr) (c : Nat), a.eval x = .slice ax k c → o.wp C.P a w K Q := by
              intro ax c hvx
              have hrun : (execOp a.eval o).run C.P w = .ok (.value (.int .i64 0)) w := by
                simp only [execOp, hop, resolve, invoke, Sem.run_bind]
                cases b2 <;> cases ax <;> simp [builtin, Builtin.copy_, hvx, hvy, run_underlying hu, Builtin.lenOf, Builtin.firstCells, tsz_spec hz, hload, hmin, goInt, storeCells]
              unfold Oper.wp
              rw [hrun]
              exact hK _ _ _ _ _ (r.put o.dst hd fun O => by simp only [RepD, Rep])
            obtain ⟨b, hρ, ⟨rfl, ax, c, hv, _⟩ | ⟨cap, cs0, T0, f0, q1, q2, q3, q4⟩⟩ := hx'
            · exact main ax c hv
            · exact main _ cap q2
          split at e
          · rename_i hc
            obtain ⟨rfl, h0z, hmin, hoff, hne, hown⟩ := hc
            injection e with e; subst e
            obtain ⟨b2, c2, vs, hvy, hvl, hbn, hcell, hrep, hone⟩ := srcC_ok r hsrc
            have hx' := evalD_rep r hx
            simp only [RepD] at hx'
            obtain ⟨b, hρ, ⟨q, _⟩ | ⟨cap, cs0, T0, f0, q1, q2, q3, q4⟩⟩ := hx'
            · omega
            obtain ⟨p1, p2, cs, T, hh, hl0, hrr⟩ := r.hr.box id box b hb hρ hne
            obtain ⟨ad, rfl⟩ : ∃ ad, b2 = some ad := by
              cases b2 with
              | none => have := hbn rfl; omega
              | some ad => exact ⟨ad, rfl⟩
            have hmk : min m k * z' ≤ k * z' := Nat.mul_le_mul_right _ (Nat.min_le_right _ _)
            have hmm : min m k * z' ≤ m * z' := Nat.mul_le_mul_right _ (Nat.min_le_left _ _)
            have hload := run_loadCells_list (P := C.P) w ad (vs.take (min m k * z')) (fun j u hj => hcell ad rfl (by omega) j u (by
              rw [List.getElem?_take] at hj
              split at hj
              · exact hj
              · cases hj))
            have hvtl : (vs.take (min m k * z')).length = min m k * z' := by simp; omega
            rw [hvtl] at hload
            have hst := run_storeCells_at C.P b off T (vs.take (min m k * z')) 0 cs w hh (by rw [hvtl]; omega) (fun u hu => hone u (List.mem_of_mem_take hu))
            have hrun : (execOp a.eval o).run C.P w = .ok (.value (.int .i64 (min m k : Nat))) (w.setRow b (cs.toList.take off ++ vs.take (min m k * z') ++ cs.toList.drop (off + min m k * z')).toArray) := by
              simp only [Nat.add_zero, hvtl] at hst
              have hu := tslice_spec hts
              simp only [execOp, hop, resolve, invoke, Sem.run_bind]
              simp [builtin, Builtin.copy_, q2, hvy, run_underlying hu, Builtin.lenOf, Builtin.firstCells, tsz_spec hz, hload, hst, goInt]
            unfold Oper.wp
            rw [hrun]
            show K (a.put o.dst _) _
            have hst2 := r.stored (z := min m k * z') (ds := src.take (min m k * z')) (vs := vs.take (min m k * z')) hb hρ hh (by
              have := (hrep (fun _ _ => False) 0).length
              simp; omega) (by omega) hne (fun x => x) (fun i => rfl) (fun p => rfl) (RepDs.of_get (by
              have := (hrep (fun _ _ => False) 0).length
              simp; omega) fun i d u hd hu => ?_) { s with hp := s.hp.set id (box.take off ++ src.take (min m k * z') ++ box.drop (off + min m k * z')) } rfl r.dom (fun i => .inr ⟨rfl, fun p => rfl⟩)
            · have hmap : (fun g => (ow g).map (fun x => x)) = ow := by funext g; cases ow g <;> rfl
              exact hK _ _ _ _ _ (hst2.put o.dst hd fun O => by simp only [RepD, Rep])
            · rw [List.getElem?_take] at hd hu
              split at hd
              · rename_i hi
                rw [if_pos hi] at hu
                obtain ⟨v', k1, k2⟩ := (hrep (fun _ _ => False) 0).get i d hd
                rw [k1] at hu; injection hu with hu; subst hu
                exact RepD.free _ _ _ _ (hasOwns_get hown i d hd) k2
              · cases hd
          · cases e
        · cases e
      · cases e
    · cases e
  · cases e

/-! ### clear -/
def clearD (P : Program) (o : Oper) (c : Call) (s : St) : Option St :=
  match c.args.toList, c.argTypes.toList with
  | [x], [t] => match tslice P t with
    | some e => match tsz P e, zeroCells P e, evalD s x with
      | some z, some zc, some (.arr id off z' n) => match s.hp[id]? with
        | some box => if n = 0 then some (s.put o.dst (.tup [])) else if z' = z ∧ 0 < z ∧ zc.length = z ∧ off + n * z ≤ box.length ∧ box ≠ [] ∧ hasOwns zc = false ∧ solids zc = true then
            some ({ s with hp := s.hp.set id (box.take off ++ (List.replicate n zc).flatten ++ box.drop (off + n * z)) }.put o.dst (.tup [])) else none
        | none => none
      | _, _, _ => none
    | none => none
  | _, _ => none
theorem clearD_ok {C w0 h0 ow0 r0 n o c s s'} (hop : o.op = .call c) (hcal : c.callee = .builtin .clear) (hd : dstOk n o.dst = true) (e : clearD C.P o c s = some s') : StepOK C w0 h0 ow0 r0 n o s s' := by
  intro a w h ow ρ r K Q hK
  obtain ⟨callee, args, types⟩ := c
  dsimp only at hcal; subst hcal
  unfold clearD at e
  split at e
  · rename_i x t ha ht'
    dsimp only at ha ht'
    obtain rfl : args = #[x] := by rw [← Array.toArray_toList (xs := args), ha]
    obtain rfl : types = #[t] := by rw [← Array.toArray_toList (xs := types), ht']
    split at e
    · rename_i el hts
      split at e
      · rename_i z zc id off z' k hz hzc hx
        split at e
        · rename_i box hb
          have hx' := evalD_rep r hx
          simp only [RepD] at hx'
          have hu := tslice_spec hts
          obtain ⟨zv, hzv, hzr⟩ := zeroCells_rep hzc
          split at e
          · rename_i hk0
            subst hk0
            injection e with e; subst e
            have main : ∀ (ax : Option Addr) (c : Nat), a.eval x = .slice ax 0 c → o.wp C.P a w K Q := by
              intro ax c hvx
              have hrun : (execOp a.eval o).run C.P w = .ok (.value (.tuple #[])) w := by
                simp only [execOp, hop, resolve, invoke, Sem.run_bind]
                cases ax <;> simp [builtin, Builtin.clear_, hvx, run_underlying hu]
              unfold Oper.wp
              rw [hrun]
              exact hK _ _ _ _ _ (r.put o.dst hd fun O => by simp [RepD, RepDs])
            obtain ⟨b, hρ, ⟨_, ax, c, hv, _⟩ | ⟨cap, cs0, T0, f0, q1, q2, q3, q4⟩⟩ := hx'
            · exact main ax c hv
            · exact main _ cap q2
          split at e
          · rename_i hk0 hc
            obtain ⟨rfl, h0z, hzl, hoff, hne, hown, hsol⟩ := hc
            injection e with e; subst e
            obtain ⟨b, hρ, ⟨q, _⟩ | ⟨cap, cs0, T0, f0, q1, q2, q3, q4⟩⟩ := hx'
            · exact absurd q hk0
            obtain ⟨p1, p2, cs, T, hh, hl0, hrr⟩ := r.hr.box id box b hb hρ hne
            have hzcl : zv.cells.toList.length = z' := by rw [(hzr (w := w) (h := h) (ρ := ρ) (fun _ _ => False)).length, hzl]
            have hzs : zv.cells.size = z' := by simpa using hzcl
            obtain ⟨vs, hvs⟩ : ∃ vs, (Builtin.zeroCells zv.cells k).toList = vs := ⟨_, rfl⟩
            have hvl : vs.length = k * z' := by
              rw [← hvs]
              simp [Builtin.zeroCells, hzs]
            have hget : ∀ j, j < k * z' → ∃ v, vs[j]? = some v ∧ zv.cells.toList[j % z']? = some v := by
              intro j hj
              have hjm : j % z' < zv.cells.size := by rw [hzs]; exact Nat.mod_lt _ h0z
              refine ⟨zv.cells[j % z'], ?_, by simp [hjm]⟩
              rw [← hvs, Array.getElem?_toList]
              simp only [Builtin.zeroCells]
              simp [Array.getElem?_map, hj, hzs]
              rw [getElem!_def, Array.getElem?_eq_getElem hjm]
            have hbl : ((List.replicate k zc).flatten).length = k * z' := by
              simp [List.length_flatten, hzl]
            have hrep : RepDs w h ρ (List.replicate k zc).flatten (fun _ _ => False) 0 vs := by
              refine RepDs.of_get (by rw [hvl, hbl]) fun j dd v hdj hvj => ?_
              have hj : j < k * z' := by rw [← hbl]; exact (List.getElem?_eq_some_iff.1 hdj).1
              rw [flat_rep_get zc z' hzl _ j hj] at hdj
              obtain ⟨v1, g1, g2⟩ := hget j hj
              rw [g1] at hvj; injection hvj with hvj; subst hvj
              obtain ⟨v', p1, p2⟩ := (hzr (w := w) (h := h) (ρ := ρ) (fun _ _ => False)).get (j % z') dd hdj
              rw [g2] at p1; injection p1 with p1; subst p1
              exact RepD.free _ _ _ _ (hasOwns_get hown _ _ hdj) p2
            have hone : ∀ u ∈ vs, u.oneCell' = true := by
              intro u hu
              obtain ⟨j, hj⟩ := List.mem_iff_getElem?.1 hu
              have hjl : j < k * z' := by rw [← hvl]; exact (List.getElem?_eq_some_iff.1 hj).1
              obtain ⟨v1, g1, g2⟩ := hget j hjl
              rw [g1] at hj; injection hj with hj; subst hj
              have hjm : j % z' < zc.length := by rw [hzl]; exact Nat.mod_lt _ h0z
              obtain ⟨v', p1, p2⟩ := (hzr (w := w) (h := h) (ρ := ρ) (fun _ _ => False)).get (j % z') _ (List.getElem?_eq_getElem hjm)
              rw [g2] at p1; injection p1 with p1; subst p1
              exact solid_one (solids_get hsol _ _ (List.getElem?_eq_getElem hjm)) p2
            have hst := run_storeCells_at C.P b off T vs 0 cs w hh (by rw [hvl]; omega) hone
            have hrun : (execOp a.eval o).run C.P w = .ok (.value (.tuple #[])) (w.setRow b (cs.toList.take off ++ vs ++ cs.toList.drop (off + k * z')).toArray) := by
              simp only [Nat.add_zero, hvl] at hst
              simp only [execOp, hop, resolve, invoke, Sem.run_bind]
              obtain ⟨k', rfl⟩ : ∃ k', k = k' + 1 := ⟨k - 1, by omega⟩
              simp [builtin, Builtin.clear_, q2, run_underlying hu, tzero_spec hzv, hvs, hst]
            unfold Oper.wp
            rw [hrun]
            show K (a.put o.dst _) _
            have hst2 := r.stored (z := k * z') (ds := (List.replicate k zc).flatten) (vs := vs) hb hρ hh hbl (by omega) hne (fun x => x) (fun i => rfl) (fun p => rfl) (RepDs.of_get (by rw [hvl, hbl]) fun i d u hd hu => by
              obtain ⟨v', k1, k2⟩ := hrep.get i d hd
              rw [k1] at hu; injection hu with hu; subst hu
              have : hasOwn d = false := by
                have hj : i < k * z' := by rw [← hbl]; exact (List.getElem?_eq_some_iff.1 hd).1
                rw [flat_rep_get zc z' hzl _ i hj] at hd
                exact hasOwns_get hown _ _ hd
              exact RepD.free _ _ _ _ this k2) { s with hp := s.hp.set id (box.take off ++ (List.replicate k zc).flatten ++ box.drop (off + k * z')) } rfl r.dom (fun i => .inr ⟨rfl, fun p => rfl⟩)
            have hmap : (fun g => (ow g).map (fun x => x)) = ow := by funext g; cases ow g <;> rfl
            exact hK _ _ _ _ _ (hst2.put o.dst hd fun O => by simp [RepD, RepDs])
          · cases e
        · cases e
      · cases e
    · cases e
  · cases e

/-! ### append -/
theorem append_new {P : Program} {t e : TypeId} {z by_ : Nat} {zv : Value} {i : TypeInfo} (hu : P.underlying t = some (.slice e)) (hi : P.info? e = some i) (hi2 : i.size = z) (hi3 : i.bytes = by_) (hi4 : i.zero = some zv) (hzz : zv.cells.size = z)
    {w : World} (ty : TypeId) (a : Option Addr) (n c : Nat) (olds : List Value) (hlo : olds.length = n * z) (ha : a = none → n = 0 ∧ c = 0)
    (holds : ∀ ad, a = some ad → ∀ j u, olds[j]? = some u → w.cell? (ad.add j) = some u) (ad : Addr) (m c' : Nat) (news : List Value) (hl : news.length = m * z) (hnews : ∀ j u, news[j]? = some u → w.cell? (ad.add j) = some u)
    (hg : c < n + m) (hm : 0 < m) (hb : (n + m) * by_ ≤ 140737488355328) (hmx : n + m ≤ maxLen) :
    ∃ cap w' cur, (Builtin.append_ #[t, t] ty #[.slice a n c, .slice (some ad) m c']).run P w = .ok (.slice (some ⟨w.heap.size, 0, none⟩) (n + m) cap) w' ∧ n + m ≤ cap ∧
      w'.heap[w.heap.size]? = some (.cells cur e (0, 0)) ∧ cur.size = cap * z ∧ cur.toList.take ((n + m) * z) = olds ++ news ∧ w.grownBy w' none ∧ cap ≤ maxLen := by
  subst hi2; subst hi3
  have hsmall : n + m ≤ 9223372036854775807 := by simp only [maxLen] at hmx; omega
  have hlen : (olds ++ news).length = (n + m) * i.size := by rw [List.length_append, hlo, hl, Nat.add_mul]
  have fin : ∀ (old : Nat), old < n + m →
      n + m ≤ grownCap w (n + m) old e ∧ (olds.toArray ++ news.toArray ++ Builtin.zeroCells zv.cells (grownCap w (n + m) old e - (n + m))).size = grownCap w (n + m) old e * i.size ∧
      (olds.toArray ++ news.toArray ++ Builtin.zeroCells zv.cells (grownCap w (n + m) old e - (n + m))).toList.take ((n + m) * i.size) = olds ++ news ∧
      w.grownBy (w.drew.alloc (.cells (olds.toArray ++ news.toArray ++ Builtin.zeroCells zv.cells (grownCap w (n + m) old e - (n + m))) e)) none := by
    intro old ho
    have hge := grownCap_ge w (n + m) old e
    refine ⟨hge, ?_, ?_, ⟨rfl, rfl, rfl, by simp, fun k hk _ => heap_alloc_old w.drew _ hk⟩⟩
    · simp only [Array.size_append, List.size_toArray, size_zeroCells, hzz, hlo, hl, ← Nat.add_mul]
      congr 1
      omega
    · simp only [Array.toList_append, List.append_assoc]
      rw [← List.append_assoc, ← hlen]
      exact List.take_left
  cases a with
  | none =>
    obtain ⟨rfl, rfl⟩ := ha rfl
    have hx : olds = [] := List.eq_nil_of_length_eq_zero (by simpa using hlo)
    subst hx
    have hr := run_append_nil (P := P) w t ty e i zv hu hi hi4 ad m c' news hl hnews (by omega) (by omega) (by simp only [Nat.zero_add] at hb; omega)
    obtain ⟨f1, f2, f3, f4⟩ := fin 0 (by omega)
    simp only [Nat.zero_add, List.nil_append, Array.empty_append] at f1 f2 f3 f4 ⊢
    exact ⟨_, _, _, hr, f1, heap_alloc_new w.drew _, f2, f3, f4, by simpa using grownCap_le_maxLen w (0 + m) 0 e hmx⟩
  | some b =>
    have hr := run_append_grow (P := P) w t ty e i zv hu hi hi4 b n c olds hlo (holds b rfl) ad m c' news hl hnews hg (by omega) (growslice_fits hg hb)
    obtain ⟨f1, f2, f3, f4⟩ := fin c hg
    exact ⟨_, _, _, hr, f1, heap_alloc_new w.drew _, f2, f3, f4, grownCap_le_maxLen w (n + m) c e hmx⟩

theorem append_fit {P : Program} {t e : TypeId} {z : Nat} (hu : P.underlying t = some (.slice e)) (hz : tsz P e = some z) (ty : TypeId) (w : World) (b n c : Nat) (T : TypeId) (cs : Array Value) (hh : w.heap[b]? = some (.cells cs T (0, 0)))
    (ad : Addr) (m c' : Nat) (news : List Value) (hl : news.length = m * z) (hnews : ∀ j u, news[j]? = some u → w.cell? (ad.add j) = some u) (h1 : ∀ u ∈ news, u.oneCell' = true) (hroom : n + m ≤ c) (hfit : c * z ≤ cs.size) :
    (Builtin.append_ #[t, t] ty #[.slice (some ⟨b, 0, none⟩) n c, .slice (some ad) m c']).run P w =
      .ok (.slice (some ⟨b, 0, none⟩) (n + m) c) (w.setRow b (cs.toList.take (n * z) ++ news ++ cs.toList.drop (n * z + m * z)).toArray) := by
  have hf : (Builtin.firstCells z m (.slice (some ad) m c')).run P w = .ok news.toArray w := run_firstCells_some (P := P) w z m ad m c' news hl hnews
  have hle : (n + m) * z ≤ c * z := Nat.mul_le_mul_right _ hroom
  rw [Nat.add_mul] at hle
  have hst := run_storeCells_at P b (n * z) T news 0 cs w hh (by rw [hl]; omega) h1
  simp only [Nat.add_zero, hl] at hst
  have hadd : (⟨b, 0, none⟩ : Addr).add (n * z) = ⟨b, n * z, none⟩ := by rw [addr_add]; simp
  simp [Builtin.append_, run_underlying hu, tsz_spec hz, Builtin.lenOf, hroom, hf, hadd, hst]

def appendB (e z by_ : Nat) (d : Tmp) (x y : Operand) (s : St) : Option St :=
  match evalD s x, srcC z s y with
  | some (.mt e' z'), some (src, m) => match x with
    | .tmp ts => if e' = e ∧ z' = z ∧ 0 < m ∧ m * by_ ≤ 140737488355328 ∧ m ≤ maxLen then some { ((s.put (some ts) .un).put (some d) (.arr s.hp.length 0 z m)) with hp := s.hp ++ [src] } else none
    | _ => none
  | some (.own e' z' []), some (src, m) => match x with
    | .tmp ts => if e' = e ∧ z' = z ∧ 0 < m ∧ m * by_ ≤ 140737488355328 ∧ m ≤ maxLen then some { ((s.put (some ts) .un).put (some d) (.arr s.hp.length 0 z m)) with hp := s.hp ++ [src] } else none
    | _ => none
  | some (.arr id off z' n), some (src, m) => match s.hp[id]? with
    | some box => if off = 0 ∧ z' = z ∧ 0 < n ∧ 0 < m ∧ box.length = n * z ∧ box ≠ [] ∧ hasOwns box = false ∧ hasOwns src = false ∧ (n + m) * by_ ≤ 140737488355328 ∧ n + m ≤ maxLen then
        some { s.put (some d) (.arr s.hp.length 0 z (n + m)) with hp := s.hp.set id [] ++ [box ++ src] } else none
    | none => none
  | some (.cp z' xs), some (src, m) => if xs = [] ∧ z' = z ∧ 0 < m ∧ m * by_ ≤ 140737488355328 ∧ m ≤ maxLen ∧ (appMore z s y).isNone = true then
      some { s.put (some d) (.arr s.hp.length 0 z m) with hp := s.hp ++ [src] } else
      (match appMore z s y with
      | some ys => if z' = z ∧ (xs.length + ys.length) * by_ ≤ 140737488355328 ∧ xs.length + ys.length ≤ maxLen then some (s.put (some d) (.p (.sl z (xs ++ ys)))) else none
      | none => none)
  | _, _ => none
def appendA (P : Program) (o : Oper) (c : Call) (s : St) : Option St :=
  match c.args.toList, c.argTypes.toList, o.dst with
  | [x, y], [t, t'], some d => match tslice P t with
    | some e => match tsz P e, tbytes P e, tzero P e with
      | some z, some by_, some zv => if t = t' ∧ 0 < z ∧ zv.cells.size = z then appendB e z by_ d x y s else none
      | _, _, _ => none
    | none => none
  | _, _, _ => none
end Go.Proofs.Dm

set_option linter.unusedVariables false
set_option linter.unusedSimpArgs false
namespace Go.Proofs.Dm
open Go Go.RowKit

theorem Rel.weak {C w0 h0 ow0 r0 n s a w h ow ρ} (r : Rel C w0 h0 ow0 r0 n s a w h ow ρ) (s' : St) (hhp : s'.hp = s.hp) (hw : ∀ i, Wk (s.tm i) (s'.tm i)) (hdom : ∀ i, n ≤ i → s'.tm i = .un) :
    Rel C w0 h0 ow0 r0 n s' a w h ow ρ :=
  ⟨r.glob, r.fr, by rw [hhp]; exact r.hr, r.defers, r.size, fun i => RepD.wk (hw i) (r.tm i), hdom, r.pre⟩

theorem own_vals {w h O e z v} (r : OwnRep w h O e z [] v) : w.ownsRow 0 e z v 0 [] ∧ ∀ g, v.ownBlock = some g → h g = 0 ∧ O g [] := by
  obtain ⟨vals, h0, ho, hx, hr, h1, hg⟩ := r
  have : vals = [] := List.eq_nil_of_length_eq_zero (by simpa using ho.1)
  subst this
  exact ⟨ho, fun g hgg => by have := hg g hgg; simpa using this⟩

theorem append_any {P : Program} {t e : TypeId} {z by_ : Nat} {zv : Value} {i : TypeInfo} (hu : P.underlying t = some (.slice e)) (hi : P.info? e = some i) (hi2 : i.size = z) (hi3 : i.bytes = by_) (hi4 : i.zero = some zv) (hzz : zv.cells.size = z)
    {w : World} (ty : TypeId) (b n c : Nat) (T : TypeId) (cs : Array Value) (hh : w.heap[b]? = some (.cells cs T (0, 0))) (hnc : n ≤ c) (hcs : c * z ≤ cs.size)
    (ad : Addr) (m c' : Nat) (news : List Value) (hl : news.length = m * z) (hnews : ∀ j u, news[j]? = some u → w.cell? (ad.add j) = some u) (h1 : ∀ u ∈ news, u.oneCell' = true)
    (hm : 0 < m) (hb : (n + m) * by_ ≤ 140737488355328) (hmx : n + m ≤ maxLen) :
    ∃ cap w' g cur T', (Builtin.append_ #[t, t] ty #[.slice (some ⟨b, 0, none⟩) n c, .slice (some ad) m c']).run P w = .ok (.slice (some ⟨g, 0, none⟩) (n + m) cap) w' ∧ n + m ≤ cap ∧
      w'.heap[g]? = some (.cells cur T' (0, 0)) ∧ cap * z ≤ cur.size ∧ cur.toList.take ((n + m) * z) = cs.toList.take (n * z) ++ news ∧ (g = w.heap.size ∨ g = b ∧ cur.size = cs.size) ∧
      (∀ k, k < w.heap.size → k ≠ g → w'.heap[k]? = w.heap[k]?) ∧ w.heap.size ≤ w'.heap.size ∧ w'.os = w.os ∧ w'.tape = w.tape ∧ w'.output = w.output := by
  have hz : tsz P e = some z := by simp [tsz, hi, hi2]
  have hnz : n * z ≤ cs.size := Nat.le_trans (Nat.mul_le_mul_right _ hnc) hcs
  by_cases hroom : n + m ≤ c
  · have hr := append_fit (P := P) hu hz ty w b n c T cs hh ad m c' news hl hnews h1 hroom hcs
    have hle : (n + m) * z ≤ c * z := Nat.mul_le_mul_right _ hroom
    rw [Nat.add_mul] at hle
    have hsz : (cs.toList.take (n * z) ++ news ++ cs.toList.drop (n * z + m * z)).toArray.size = cs.size := by simp; omega
    refine ⟨c, _, b, _, T, hr, hroom, setRow_heap w b cs _ T _ hh, by rw [hsz]; exact hcs, ?_, .inr ⟨rfl, hsz⟩, fun k _ hk => setRow_other w b k _ hk, by simp [World.setRow], rfl, rfl, rfl⟩
    rw [Nat.add_mul]
    show (cs.toList.take (n * z) ++ news ++ cs.toList.drop (n * z + m * z)).take (n * z + m * z) = _
    have : (cs.toList.take (n * z) ++ news).length = n * z + m * z := by simp; omega
    rw [← this]; exact List.take_left
  · obtain ⟨cap, w', cur, q1, q2, q3, q4, q5, q6, q7⟩ := append_new (P := P) hu hi hi2 hi3 hi4 hzz (w := w) ty (some ⟨b, 0, none⟩) n c (cs.toList.take (n * z)) (by simp; omega) (fun q => by cases q)
      (fun ad0 had j u hj => by
        injection had with had; subst had
        rw [addr_add]
        rw [List.getElem?_take] at hj
        split at hj
        · rw [Array.getElem?_toList] at hj
          simp [World.cell?, hh, hj]
        · cases hj) ad m c' news hl hnews (by omega) hm hb hmx
    exact ⟨cap, w', _, cur, e, q1, q2, q3, by rw [q4]; exact Nat.le_refl _, q5, .inl rfl, fun k hk _ => q6.block k hk (by simp), q6.size, q6.os, q6.tape, q6.output⟩

theorem appendA_ok {C w0 h0 ow0 r0 n o c s s'} (hop : o.op = .call c) (hcal : c.callee = .builtin .append) (hd : dstOk n o.dst = true) (e : appendA C.P o c s = some s') : StepOK C w0 h0 ow0 r0 n o s s' := by
  intro a w h ow ρ r K Q hK
  obtain ⟨callee, args, types⟩ := c
  dsimp only at hcal; subst hcal
  unfold appendA at e
  split at e
  · rename_i x y t t' d ha ht' hdst
    dsimp only at ha ht'
    obtain rfl : args = #[x, y] := by rw [← Array.toArray_toList (xs := args), ha]
    obtain rfl : types = #[t, t'] := by rw [← Array.toArray_toList (xs := types), ht']
    split at e
    · rename_i el hts
      split at e
      · rename_i z by_ zv hz hby hzv
        split at e
        · rename_i hc0
          obtain ⟨rfl, h0z, hzz⟩ := hc0
          have hu := tslice_spec hts
          obtain ⟨i, hi1, hi2⟩ := Option.map_eq_some_iff.1 hz
          obtain ⟨i', hi1', hi3⟩ := Option.map_eq_some_iff.1 hby
          obtain ⟨i'', hi1'', hi4⟩ := Option.bind_eq_some_iff.1 hzv
          rw [hi1] at hi1' hi1''
          injection hi1' with q; subst q
          injection hi1'' with q; subst q
          have go : ∀ v w', (Builtin.append_ #[t, t] o.type #[a.eval x, a.eval y]).run C.P w = .ok v w' → K (a.put (some d) v) w' → o.wp C.P a w K Q := by
            intro v w' q1 q2
            unfold Oper.wp
            have hrun : (execOp a.eval o).run C.P w = .ok (.value v) w' := by simp [execOp, hop, resolve, invoke, builtin, q1]
            rw [hrun]
            show K (a.put o.dst v) w'
            rw [hdst]; exact q2
          have hdd : d < n := by rw [hdst] at hd; simpa [dstOk] using hd
          -- a new block, of what is appended alone
          have fresh : ∀ (own? : Option Tmp) (ab : Option Addr) (c0 : Nat) (src : List DV) (m : Nat), a.eval x = .slice ab 0 c0 → (ab = none → c0 = 0) → c0 < m → srcC z s y = some (src, m) → 0 < m → m * by_ ≤ 140737488355328 → m ≤ maxLen →
              Good C w0 h0 ow0 r0 n ({ ((s.put own? .un).put (some d) (.arr s.hp.length 0 z m)) with hp := s.hp ++ [src] }) K → o.wp C.P a w K Q := by
            intro own? ab c0 src m hvx hab hcm hsrc h0m hb hmx hK
            obtain ⟨b2, c2, vs, hvy, hvl, hbn, hcell, hrep, hone⟩ := srcC_ok r hsrc
            obtain ⟨ad, rfl⟩ : ∃ ad, b2 = some ad := by
              cases b2 with
              | none => have := hbn rfl; omega
              | some ad => exact ⟨ad, rfl⟩
            obtain ⟨cap, w', cur, q1, q2, q3, q4, q5, q6, q7⟩ := append_new (P := C.P) hu hi1 hi2 hi3 hi4 hzz (w := w) o.type ab 0 c0 [] (by simp) (fun q => ⟨rfl, hab q⟩) (fun _ _ j u hj => by simp at hj) ad m c2 vs hvl (hcell ad rfl h0m) (by omega) h0m (by simpa using hb) (by omega)
            have hsl : src.length = vs.length := (hrep (fun _ _ => False) 0).length.symm
            refine go _ _ (by rw [hvx, hvy]; exact q1) (hK _ _ _ _ _ (r.arrived own? none d hdd w.heap.size (cs := cur) (T := el) (.inl (Nat.le_refl _)) (fun b hb _ => q6.block b hb (by simp)) q6.size (Array.getElem?_eq_some_iff.1 q3).1 q6.os q6.tape q6.output (fun id q => by cases q)
              (fun cs0 T0 f0 q => by have := (Array.getElem?_eq_some_iff.1 q).1; omega) q3 (by rw [q4, hsl, hvl]; exact Nat.mul_le_mul_right _ (by omega)) (fun O k => ?_) (r.hr.hz _ (Nat.le_refl _)) (.inr ⟨cap, by omega, by simp, by omega⟩)))
            have : src.length = (0 + m) * z := by rw [hsl, hvl]; simp
            rw [this, q5, List.nil_append]; exact hrep O k
          -- behind what a block holds
          have behind : ∀ (own? : Option Tmp) (old? : Option Nat) (b k c0 : Nat) (T : TypeId) (cs : Array Value) (box src : List DV) (m : Nat), a.eval x = .slice (some ⟨b, 0, none⟩) k c0 → w.heap[b]? = some (.cells cs T (0, 0)) → k ≤ c0 → c0 * z ≤ cs.size → srcC z s y = some (src, m) → 0 < m →
              (k + m) * by_ ≤ 140737488355328 → k + m ≤ maxLen → h b = 0 → ((∃ ts, own? = some ts ∧ ow b = some (.tmp [ts])) ∨ ∃ id, old? = some id ∧ ow b = some (.box id)) → (∀ id, old? = some id → id < s.hp.length) → box.length = k * z → (∀ O q, RepDs w h ρ box O q (cs.toList.take (k * z))) →
              Good C w0 h0 ow0 r0 n ({ ((s.put own? .un).put (some d) (.arr s.hp.length 0 z (k + m))) with hp := killB s.hp old? ++ [box ++ src] }) K → o.wp C.P a w K Q := by
            intro own? old? b k c0 T cs box src m hvx hh hkc hcs hsrc h0m hb hmx hmark hwho hold hbox hbrep hK
            obtain ⟨b2, c2, vs, hvy, hvl, hbn, hcell, hrep, hone⟩ := srcC_ok r hsrc
            obtain ⟨ad, rfl⟩ : ∃ ad, b2 = some ad := by
              cases b2 with
              | none => have := hbn rfl; omega
              | some ad => exact ⟨ad, rfl⟩
            obtain ⟨cap, w', g, cur, T', q1, q2, q3, q4, q5, q6, q7, q8, q9, q10, q11⟩ := append_any (P := C.P) hu hi1 hi2 hi3 hi4 hzz (w := w) o.type b k c0 T cs hh hkc hcs ad m c2 vs hvl (hcell ad rfl h0m) hone h0m hb hmx
            have hsl : src.length = vs.length := (hrep (fun _ _ => False) 0).length.symm
            have hle : (k + m) * z ≤ cap * z := Nat.mul_le_mul_right _ q2
            have hbl : (box ++ src).length = (k + m) * z := by rw [List.length_append, hbox, hsl, hvl, Nat.add_mul]
            have hmg : h g = 0 := by
              rcases q6 with e | ⟨e, _⟩
              · rw [e]; exact r.hr.hz _ (Nat.le_refl _)
              · rw [e]; exact hmark
            refine go _ _ (by rw [hvx, hvy]; exact q1) (hK _ _ _ _ _ (r.arrived own? old? d hdd g (cs := cur) (T := T') ?_ q7 q8 (Array.getElem?_eq_some_iff.1 q3).1 q9 q10 q11 hold
              (fun cs0 T0 f0 q => ?_) q3 (by rw [hbl]; omega) (fun O q => ?_) hmg (.inr ⟨cap, q2, rfl, q4⟩)))
            · rcases q6 with e | ⟨e, _⟩
              · exact .inl (by omega)
              · rw [e]; exact .inr hwho
            · rcases q6 with e | ⟨e, e2⟩
              · have := (Array.getElem?_eq_some_iff.1 q).1; omega
              · rw [e, hh] at q; injection q with q; injection q with q _ _; rw [← q]; exact e2.symm
            · rw [hbl, q5]
              exact RepDs.append (hbrep O q) (hrep O _)
          unfold appendB at e
          split at e
          · -- an empty one of the call's own
            rename_i e' z' src m hx hsrc
            split at e
            · rename_i ts
              split at e
              · rename_i hc
                obtain ⟨rfl, rfl, h0m, hb, hmx⟩ := hc
                injection e with e; subst e
                have hx' := evalD_rep r hx
                simp only [RepD] at hx'
                obtain ⟨ho, hg⟩ := own_vals hx'
                rcases ho.2 with ⟨hv, _⟩ | ⟨g, cap, cur, hv, _, hh, hnc, hcm, hcs, htake⟩
                · exact fresh (some ts) none 0 src m hv (fun _ => rfl) h0m hsrc h0m hb hmx hK
                · have hgb := hg g (by rw [hv]; rfl)
                  have := behind (some ts) none g 0 cap e' cur [] src m hv hh hnc (by omega) hsrc h0m (by simpa using hb) (by omega) hgb.1 (.inl ⟨ts, rfl, hgb.2⟩) (fun id q => by cases q) (by simp) (fun O q => by simp [RepDs])
                  simp only [Nat.zero_add, killB, List.nil_append] at this
                  exact this hK
              · cases e
            · cases e
          · -- the same
            rename_i e' z' src m hx hsrc
            split at e
            · rename_i ts
              split at e
              · rename_i hc
                obtain ⟨rfl, rfl, h0m, hb, hmx⟩ := hc
                injection e with e; subst e
                have hx' := evalD_rep r hx
                simp only [RepD] at hx'
                obtain ⟨ho, hg⟩ := own_vals hx'
                rcases ho.2 with ⟨hv, _⟩ | ⟨g, cap, cur, hv, _, hh, hnc, hcm, hcs, htake⟩
                · exact fresh (some ts) none 0 src m hv (fun _ => rfl) h0m hsrc h0m hb hmx hK
                · have hgb := hg g (by rw [hv]; rfl)
                  have := behind (some ts) none g 0 cap e' cur [] src m hv hh hnc (by omega) hsrc h0m (by simpa using hb) (by omega) hgb.1 (.inl ⟨ts, rfl, hgb.2⟩) (fun id q => by cases q) (by simp) (fun O q => by simp [RepDs])
                  simp only [Nat.zero_add, killB, List.nil_append] at this
                  exact this hK
              · cases e
            · cases e
          · -- a box's row
            rename_i id off z' k src m hx hsrc
            split at e
            · rename_i box hb
              split at e
              · rename_i hc
                obtain ⟨rfl, rfl, h0k, h0m, hbl, hne, hown, hown2, hbd, hmx⟩ := hc
                injection e with e; subst e
                have hx' := evalD_rep r hx
                simp only [RepD] at hx'
                obtain ⟨b, hρ, ⟨q, _⟩ | ⟨cap, cs0, T0, f0, q1, q2, q3, q4⟩⟩ := hx'
                · omega
                obtain ⟨p1, p2, cs, T, hh, hl0, hrr⟩ := r.hr.box id box b hb hρ hne
                rw [hh] at q3; injection q3 with q3; injection q3 with q3 _ _; subst q3
                refine behind none (some id) b k cap T cs box src m q2 hh q1 (by omega) hsrc h0m hbd hmx p2 (.inr ⟨id, rfl, p1⟩) (fun id' q => by injection q with q; subst q; exact (List.getElem?_eq_some_iff.1 hb).1) hbl (fun O q => ?_) hK
                rw [← hbl]; exact hrr.free_any hown O q
              · cases e
            · cases e
          · -- what has no room
            rename_i z' xs src m hx hsrc
            have hx' := evalD_rep r hx
            simp only [RepD] at hx'
            obtain ⟨hxr, ax, hvx⟩ := hx'
            split at e
            · rename_i hc
              obtain ⟨rfl, rfl, h0m, hb, hmx, _⟩ := hc
              injection e with e; subst e
              exact fresh none ax 0 src m (by simpa using hvx) (fun _ => rfl) h0m hsrc h0m hb hmx hK
            · split at e
              · rename_i ys hmore
                split at e
                · rename_i hc
                  obtain ⟨rfl, hb, hmx⟩ := hc
                  injection e with e; subst e
                  have hy : Rep w h (.sl z' ys) (a.eval y) := by
                    unfold appMore at hmore
                    split at hmore
                    · rename_i hy
                      injection hmore with hmore; subst hmore
                      have := evalD_rep r hy
                      simp only [RepD] at this
                      simp only [Rep]; exact .inl ⟨trivial, none, 0, this, fun _ => rfl⟩
                    · rename_i d' _ hy
                      split at hmore
                      · rename_i z2 ys' he
                        split at hmore
                        · rename_i hzz'
                          injection hmore with hmore; subst hmore; subst hzz'
                          exact elems_rep he (evalD_rep r hy)
                        · cases hmore
                      · cases hmore
                    · cases hmore
                  have hy0 := hy
                  simp only [Rep] at hy
                  have nothing : ys = [] → o.wp C.P a w K Q := by
                    intro q
                    subst q
                    obtain ⟨ay, cy, hvy, _, _⟩ := rep_slice hy0
                    refine go _ _ (by rw [hvx, hvy]; exact run_append_none hu hz o.type ax _ _ (Nat.le_refl _) ay cy w) (hK _ _ _ _ _ (r.put (some d) (by rw [← hdst]; exact hd) fun O => ?_))
                    simp only [RepD, List.append_nil]; rw [← hvx]; exact hxr
                  rcases hy with ⟨q, _⟩ | ⟨gy, offy, capy, hvy, hcy, hhy, hzy, hry⟩
                  · exact nothing q
                  by_cases hm0 : ys = []
                  · exact nothing hm0
                  have h0m : 0 < ys.length := by
                    rcases ys with _ | _
                    · exact absurd rfl hm0
                    · simp
                  obtain ⟨news, hnl, hnews, hnr, hn1⟩ := rows_vals hzy hry
                  -- what is there
                  have holds : ∃ olds : List Value, olds.length = xs.length * z' ∧ (ax = none → xs.length = 0 ∧ xs.length = 0) ∧ (∀ ad, ax = some ad → ∀ j u, olds[j]? = some u → w.cell? (ad.add j) = some u) ∧ RepRows w h xs (fun j => olds[j]?) ∧ (∀ u ∈ olds, u.oneCell' = true) ∧ (∀ q ∈ xs, q.length = z') := by
                    simp only [Rep] at hxr
                    rcases hxr with ⟨rfl, _⟩ | ⟨g, off, cap, hv, hcap, hh, hzx, rr⟩
                    · exact ⟨[], by simp, fun _ => ⟨rfl, rfl⟩, (fun _ _ j u hj => by simp at hj), by simp only [RepRows], by simp, by simp⟩
                    · obtain ⟨olds, k1, k2, k3, k4⟩ := rows_vals hzx rr
                      rw [hvx] at hv; injection hv with e1 e2 e3; subst e1
                      exact ⟨olds, k1, (fun q => by cases q), fun ad had j u hj => by injection had with had; subst had; rw [addr_add]; exact k2 j u hj, k3, k4, hzx⟩
                  obtain ⟨olds, k1, k2, k3, k4, k5, k6⟩ := holds
                  obtain ⟨cap, w', cur, q1, q2, q3, q4, q5, q6, q7⟩ := append_new (P := C.P) hu hi1 hi2 hi3 hi4 hzz (w := w) o.type ax xs.length xs.length olds k1 k2 k3 ⟨gy, offy, none⟩ ys.length capy news hnl
                    (fun j u hj => by rw [addr_add]; exact hnews j u hj) (by omega) h0m hb hmx
                  refine go _ _ (by rw [hvx, hvy]; exact q1) ?_
                  have happ := r.appended none d hdd (v := .slice none 0 0) (v' := .slice (some ⟨w.heap.size, 0, none⟩) (xs.length + ys.length) cap) (w' := w') (e := el) (z := z') (xs' := xs ++ ys) (vals' := olds ++ news)
                    (fun g hg => by simp [Value.ownBlock] at hg) q6 (fun b j hj => ?_) (fun b cs T f q => ⟨cs, T, f, by rw [q6.block b (Array.getElem?_eq_some_iff.1 q).1 (by simp)]; exact q, rfl⟩) h0z ?_ (fun q hq => ?_) (RepRows.append (by rw [rowsLen xs _ k6, k1]) k4 hnr) (fun u hu => ?_) (.inr (.inr rfl))
                    (fun g hg => by
                      have : w.heap.size = g := by simpa [Value.ownBlock] using hg
                      rw [r.hr.hz g (by omega)]; exact Nat.zero_le _)
                  · have hK' := hK
                    refine hK _ _ _ _ _ (happ.weak _ rfl (fun i => ?_) (fun i hi => ?_))
                    · simp only [St.put]
                      split
                      · exact .fr _ _ _
                      · exact .refl _
                    · simp only [St.put]
                      rw [if_neg (fun e => by rw [e] at hi; exact absurd hi (Nat.not_le_of_gt hdd))]
                      exact r.dom i hi
                  · have hlt : b < w.heap.size := by
                      rcases Nat.lt_or_ge b w.heap.size with q | q
                      · exact q
                      · rw [r.hr.hz b q] at hj; omega
                    simp only [World.cell?, q6.block b hlt (by simp)]
                  · refine ⟨by simp [k1, hnl, Nat.add_mul], .inr ⟨w.heap.size, cap, cur, by simp, by omega, q3, by simpa using q2, ?_, q4, ?_⟩⟩
                    · exact q7
                    · have : (olds ++ news).length = (xs.length + ys.length) * z' := by simp [k1, hnl, Nat.add_mul]
                      simpa using q5
                  · rcases List.mem_append.1 hq with q | q
                    · exact k6 _ q
                    · exact hzy _ q
                  · rcases List.mem_append.1 hu with q | q
                    · exact k5 u q
                    · exact hn1 u q
                · cases e
              · cases e
          · cases e
        · cases e
      · cases e
    · cases e
  · cases e
end Go.Proofs.Dm
