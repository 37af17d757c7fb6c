/- The D-machine, part W: make, copy, append where arrays are boxes. -/
import Derived.Test.YtcacihiiilemgaaDmV
set_option linter.unusedVariables false
set_option linter.unusedSimpArgs false
namespace Go.Proofs.Dm
open Go Go.RowKit

theorem hasOwns_get : ∀ {ds : List DV}, hasOwns ds = false → ∀ (i : Nat) (d : DV), ds[i]? = some d → hasOwn d = false
  | [], _, i, d, h => by simp at h
  | d' :: ds, hs, 0, d, h => by simp only [hasOwns, Bool.or_eq_false_iff] at hs; simp at h; subst h; exact hs.1
  | d' :: ds, hs, i + 1, d, h => by simp only [hasOwns, Bool.or_eq_false_iff] at hs; exact hasOwns_get hs.2 i d (by simpa using h)
theorem RepDs.free_any {w h ρ ds O k vs} (r : RepDs w h ρ ds O k vs) (hn : hasOwns ds = false) (O' : Nat → List Nat → Prop) (k' : Nat) : RepDs w h ρ ds O' k' vs := by
  refine RepDs.of_get r.length fun i d v hd hv => ?_
  obtain ⟨v', h1, h2⟩ := r.get i d hd
  rw [h1] at hv; injection hv with hv; subst hv
  exact RepD.free _ _ _ _ (hasOwns_get hn i d hd) h2

theorem zeroCells_rep {P t cs} (e : zeroCells P t = some cs) : ∃ zv, tzero P t = some zv ∧ ∀ {w h ρ} O, RepDs w h ρ cs O 0 zv.cells.toList := by
  unfold zeroCells at e
  split at e
  · rename_i z hz
    split at e
    · rename_i d hd
      obtain ⟨ds, h1, h2⟩ := Option.map_eq_some_iff.1 e
      subst h2
      refine ⟨z, hz, fun {w h ρ} O => RepDs.wk (coerCells_wk _ _ _) ?_⟩
      obtain ⟨O', hr, hO'⟩ := flat_rep h1 (constD_rep (w := w) (h := h) (ρ := ρ) (O := fun _ _ => False) hd)
      refine RepDs.of_get hr.length fun i d v hd hv => ?_
      obtain ⟨v', q1, q2⟩ := hr.get i d hd
      rw [q1] at hv; injection hv with hv; subst hv
      exact q2.rename fun g p ho => (hO' g (0 + i) p ho).elim
    · cases e
  · cases e

/-! ### make -/
def makeSliceD (P : Program) (o : Oper) (t : TypeId) (l c : Operand) (s : St) : Option St :=
  match tslice P t, o.dst, evalD s l, evalD s c with
  | some e, some d, some (.p (.int _ n)), some (.p (.int _ n')) => match tsz P e, tbytes P e, zeroCells P e with
    | some z, some by_, some zc => if n = n' ∧ 0 ≤ n ∧ zc.length = z ∧ 0 < z ∧ by_ * n.toNat ≤ 281474976710656 ∧ n.toNat ≤ maxLen ∧ hasOwns zc = false then
        some { s.put (some d) (.arr s.hp.length 0 z n.toNat) with hp := s.hp ++ [(List.replicate n.toNat zc).flatten] } else none
    | _, _, _ => none
  | _, _, _, _ => none
theorem flat_rep_get {α : Type} (zc : List α) (z : Nat) (hz : zc.length = z) : ∀ (n j : Nat), j < n * z → ((List.replicate n zc).flatten)[j]? = zc[j % z]?
  | 0, j, h => by simp at h
  | n + 1, j, h => by
    rw [List.replicate_succ, List.flatten_cons]
    by_cases hj : j < z
    · rw [List.getElem?_append_left (by omega), Nat.mod_eq_of_lt hj]
    · have h' : j - z < n * z := by rw [Nat.add_mul, Nat.one_mul] at h; omega
      rw [List.getElem?_append_right (by omega), hz, flat_rep_get zc z hz n (j - z) h']
      congr 1
      exact (Nat.mod_eq_sub_mod (by omega)).symm

theorem makeSliceD_ok {C w0 h0 ow0 r0 n o t l c s s'} (hop : o.op = .makeSlice t l c) (hd : dstOk n o.dst = true) (e : makeSliceD C.P o t l c s = some s') : StepOK C w0 h0 ow0 r0 n o s s' := by
  intro a w h ow ρ r K Q hK
  unfold makeSliceD at e
  split at e
  · rename_i el d k1 nn k2 nn' hts hdst hl hc
    split at e
    · rename_i z by_ zc hz hby hzc
      split at e
      · rename_i hcond
        obtain ⟨rfl, h0n, hzl, h0z, hbytes, hmax, hown⟩ := hcond
        injection e with e; subst e
        obtain ⟨zv, hzv, hzr⟩ := zeroCells_rep hzc
        have hl' := evalD_rep r hl
        have hc' := evalD_rep r hc
        simp only [RepD, Rep] at hl' hc'
        have hu := tslice_spec hts
        obtain ⟨i, hi1, hi2⟩ := Option.map_eq_some_iff.1 hz
        obtain ⟨i', hi1', hi3⟩ := Option.map_eq_some_iff.1 hby
        obtain ⟨i'', hi1'', hi4⟩ := Option.bind_eq_some_iff.1 hzv
        rw [hi1] at hi1' hi1''
        injection hi1' with q; subst q
        injection hi1'' with q; subst q
        obtain ⟨w', q1, q2, q3⟩ := run_make_full (P := C.P) w 0 t el i zv z hu hi1 hi4 hi2 k1 k2 nn.toNat (by rw [hi3]; exact hbytes) hmax (Nat.zero_le _)
        have hnn : ((nn.toNat : Nat) : Int) = nn := by omega
        rw [hnn] at q1
        have hrun : (execOp a.eval o).run C.P w = .ok (.value (.slice (some ⟨w.heap.size, 0, none⟩) nn.toNat nn.toNat)) w' := by
          simp only [execOp, hop, hl', hc', Sem.run_bind, q1, Result.andThen_ok, Sem.run_pure]
        unfold Oper.wp
        rw [hrun]
        show K (a.put o.dst _) _
        rw [hdst] at hd ⊢
        have hzcl : zv.cells.toList.length = z := by rw [(hzr (w := w) (h := h) (ρ := ρ) (fun _ _ => False)).length, hzl]
        rcases q2.2 with ⟨hbad, _⟩ | ⟨g, cap, cur, hv, _, hh, hnc, hcm, hcs, htake⟩
        · cases hbad
        injection hv with e1 e2 e3
        injection e1 with e1
        injection e1 with e1
        subst e1; subst e3
        have hbl : ((List.replicate nn.toNat zc).flatten).length = nn.toNat * z := by
          simp [List.length_flatten, hzl]
        refine hK _ _ _ _ _ (r.arrived none none d (by simpa [dstOk] using hd) w.heap.size (cs := cur) (T := el) (.inl (Nat.le_refl _)) (fun b hb hne => q3.block b hb (by simp)) q3.size
          (by have := (Array.getElem?_eq_some_iff.1 hh).1; exact this) q3.os q3.tape q3.output (fun id q => by cases q) (fun cs0 T0 f0 q => by have := (Array.getElem?_eq_some_iff.1 q).1; omega) hh (by rw [hbl, hcs]; exact Nat.le_refl _) (fun O k => ?_) (r.hr.hz _ (Nat.le_refl _)) (.inr ⟨_, Nat.le_refl _, rfl, by rw [hcs]; exact Nat.le_refl _⟩))
        rw [hbl, htake]
        have hml : (madeCells zv.cells (nn.toNat * z)).toList.length = nn.toNat * z := q2.1
        refine RepDs.of_get (by rw [hml, hbl]) fun j dd v hdj hvj => ?_
        have hj : j < nn.toNat * z := by rw [← hbl]; exact (List.getElem?_eq_some_iff.1 hdj).1
        rw [flat_rep_get zc z hzl _ j hj] at hdj
        obtain ⟨v', p1, p2⟩ := (hzr (w := w) (h := h) (ρ := ρ) (fun _ _ => False)).get (j % z) dd hdj
        have hvj2 : (madeCells zv.cells (nn.toNat * z)).toList[j]? = some v := hvj
        have hve : v = v' := by
          have hjm : j % z < zv.cells.size := by have := (List.getElem?_eq_some_iff.1 p1).1; simpa using this
          have hsz : zv.cells.size = z := by simpa using hzcl
          have p1' : zv.cells[j % z]? = some v' := by rw [← Array.getElem?_toList]; exact p1
          simp only [madeCells] at hvj2
          rw [Array.getElem?_toList] at hvj2
          simp [Array.getElem?_map, hj, hsz] at hvj2
          rw [getElem!_def, p1'] at hvj2
          exact hvj2.symm
        subst hve
        exact RepD.free _ _ _ _ (hasOwns_get hown _ _ hdj) p2
      · cases e
    · cases e
  · cases e
end Go.Proofs.Dm
