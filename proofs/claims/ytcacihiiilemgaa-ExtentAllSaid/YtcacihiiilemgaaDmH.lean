/- The D-machine, part H: append. -/
import Derived.Test.YtcacihiiilemgaaDmG
set_option linter.unusedVariables false
set_option linter.unusedSimpArgs false
namespace Go.Proofs.Dm
open Go Go.RowKit

theorem pd_one {w h} {c : PD} {u : Value} (r : Rep w h c u) : u.oneCell' = true := by
  have : RepD w h [] (.p c) (fun _ _ => False) u := by simpa only [RepD] using r
  exact solid_one (by cases c <;> rfl) this

/-- The values behind a frozen slice. -/
theorem rows_vals {w h} {xs : List (List PD)} {z g off : Nat} (hz : ∀ x ∈ xs, x.length = z) (r : RepRows w h xs (fun j => w.cell? ⟨g, off + j, none⟩)) :
    ∃ vs : List Value, vs.length = xs.length * z ∧ (∀ j u, vs[j]? = some u → w.cell? ⟨g, off + j, none⟩ = some u) ∧ RepRows w h xs (fun j => vs[j]?) ∧ ∀ u ∈ vs, u.oneCell' = true := by
  have hget : ∀ j, j < xs.length * z → ∃ u c, w.cell? ⟨g, off + j, none⟩ = some u ∧ Rep w h c u := by
    intro j hj
    have hz0 : 0 < z := by
      rcases Nat.eq_zero_or_pos z with e | e
      · subst e; simp at hj
      · exact e
    have hi : j / z < xs.length := (Nat.div_lt_iff_lt_mul hz0).2 hj
    have hrow := r.get hz (j / z) xs[j / z] (List.getElem?_eq_getElem hi)
    have hm : j % z < (xs[j / z]).length := by rw [hz _ (List.getElem_mem hi)]; exact Nat.mod_lt _ hz0
    obtain ⟨u, q1, q2⟩ := hrow.get (j % z) _ (List.getElem?_eq_getElem hm)
    have e : j / z * z + j % z = j := by rw [Nat.mul_comm]; exact Nat.div_add_mod j z
    simp only [e] at q1
    exact ⟨u, _, q1, q2⟩
  refine ⟨(List.range (xs.length * z)).map fun j => (w.cell? ⟨g, off + j, none⟩).getD undef, by simp, ?_, ?_, ?_⟩
  · intro j u hj
    rw [List.getElem?_map] at hj
    obtain ⟨i, hi1, hi2⟩ := Option.map_eq_some_iff.1 hj
    have hjz : j < xs.length * z := by
      have := (List.getElem?_eq_some_iff.1 hi1).1
      simpa using this
    rw [List.getElem?_range hjz] at hi1
    injection hi1 with hi1; subst hi1
    obtain ⟨u', c, q1, q2⟩ := hget j hjz
    rw [q1] at hi2 ⊢
    simpa using hi2
  · refine RepRows.mono (Stable.refl w h) xs _ _ (xs.length * z) (fun j hj => ?_) (rowsLen xs z hz) r
    rw [List.getElem?_map, List.getElem?_range hj]
    obtain ⟨u', c, q1, q2⟩ := hget j hj
    simp [q1]
  · intro u hu
    obtain ⟨j, hj, rfl⟩ := List.mem_map.1 hu
    obtain ⟨u', c, q1, q2⟩ := hget j (by simpa using hj)
    rw [q1]
    exact pd_one q2

theorem RepRows.append {w h} : ∀ {xs ys : List (List PD)} {vs us : List Value}, (xs.map List.length).sum = vs.length → RepRows w h xs (fun j => vs[j]?) → RepRows w h ys (fun j => us[j]?) →
    RepRows w h (xs ++ ys) (fun j => (vs ++ us)[j]?) := by
  intro xs
  induction xs with
  | nil =>
    intro ys vs us hl _ h2
    have : vs = [] := List.eq_nil_of_length_eq_zero (by simpa using hl.symm)
    subst this
    simpa using h2
  | cons x xs ih =>
    intro ys vs us hl h1 h2
    simp only [List.map_cons, List.sum_cons] at hl
    simp only [RepRows, List.cons_append] at h1 ⊢
    refine ⟨RepRow.mono (Stable.refl w h) x _ _ x.length (fun j hj => ?_) (Nat.le_refl _) h1.1, ?_⟩
    · rw [List.getElem?_append_left (by omega)]
    · have := ih (ys := ys) (vs := vs.drop x.length) (us := us) (by simp; omega) (by
        refine RepRows.mono (Stable.refl w h) xs _ _ _ (fun j hj => ?_) rfl h1.2
        rw [List.getElem?_drop]) h2
      refine RepRows.mono (Stable.refl w h) (xs ++ ys) _ _ _ (fun j hj => ?_) rfl this
      by_cases hlt : x.length + j < vs.length
      · rw [List.getElem?_append_left hlt, List.getElem?_append_left (by simp; omega), List.getElem?_drop]
      · rw [List.getElem?_append_right (by omega), List.getElem?_append_right (by simp; omega)]
        congr 1
        simp; omega

def appBase (P : Program) (e z : Nat) (s : St) (x : Operand) : Option (List (List PD) × Option Tmp) :=
  match evalD s x with
  | some (.own e' z' xs) => match x with
    | .tmp t => if e' = e ∧ z' = z then some (xs, some t) else none
    | _ => none
  | some .nil => some ([], none)
  | _ => none
def appMore (z : Nat) (s : St) (y : Operand) : Option (List (List PD)) :=
  match evalD s y with
  | some .nil => some []
  | some d => match elems d with
    | some (z', ys) => if z' = z then some ys else none
    | none => none
  | none => none
def appendD (P : Program) (o : Oper) (c : Call) (s : St) : Option St :=
  match c.callee with
  | .builtin .append => match c.args.toList, c.argTypes.toList with
    | [x, y], [t, t'] => match tslice P t with
      | some e => match tsz P e, tbytes P e, tzero P e, o.dst with
        | some z, some by_, some zv, some d => match appBase P e z s x, appMore z s y with
          | some (xs, own?), some ys => if t = t' ∧ 0 < z ∧ zv.cells.size = z ∧ (xs.length + ys.length) * by_ ≤ 140737488355328 ∧ xs.length + ys.length ≤ maxLen then
              some ((s.put own? .un).put (some d) (.own e z (xs ++ ys))) else none
          | _, _ => none
        | _, _, _, _ => none
      | none => none
    | _, _ => none
  | _ => none

theorem run_append_none {P : Program} {t e : TypeId} (ht : P.underlying t = some (.slice e)) {z : Nat} (hz : tsz P e = some z) (ty : TypeId) (b : Option Addr) (n c : Nat) (hc : n ≤ c) (a : Option Addr) (k : Nat) (w : World) :
    (Builtin.append_ #[t, t] ty #[.slice b n c, .slice a 0 k]).run P w = .ok (.slice b n c) w := by
  have hl : ∀ (x : Addr), (loadCells x 0).run P w = .ok #[] w := fun x => by simpa using run_loadCells_list (P := P) w x [] (by simp)
  cases b <;> cases a <;> simp [Builtin.append_, run_underlying ht, tsz_spec hz, Builtin.lenOf, Builtin.firstCells, hc, storeCells, hl]

/-- What append comes to. -/
theorem append_core {P : Program} {t e : TypeId} {z by_ : Nat} {zv : Value} (ht : tslice P t = some e) (hz : tsz P e = some z) (hby : tbytes P e = some by_) (hzv : tzero P e = some zv) (h0 : 0 < z) (hzz : zv.cells.size = z)
    {w : World} {h : Mark} {xs ys : List (List PD)} {v vy : Value} {vals : List Value} (ty : TypeId)
    (hown : w.ownsRow 0 e z v xs.length vals) (hx : ∀ x ∈ xs, x.length = z) (hr : RepRows w h xs (fun j => vals[j]?)) (h1 : ∀ u ∈ vals, u.oneCell' = true) (hg : ∀ g, v.ownBlock = some g → h g = xs.length * z)
    (hhz : ∀ b, w.heap.size ≤ b → h b = 0)
    (hy : Rep w h (.sl z ys) vy) (hb : (xs.length + ys.length) * by_ ≤ 140737488355328) (hm : xs.length + ys.length ≤ maxLen) :
    ∃ v' w' vals', (Builtin.append_ #[t, t] ty #[v, vy]).run P w = .ok v' w' ∧ w'.ownsRow 0 e z v' (xs ++ ys).length vals' ∧ (∀ x ∈ xs ++ ys, x.length = z) ∧ RepRows w h (xs ++ ys) (fun j => vals'[j]?) ∧
      (∀ u ∈ vals', u.oneCell' = true) ∧ w.grownBy w' v.ownBlock ∧ (v'.ownBlock = none ∨ v'.ownBlock = v.ownBlock ∨ v'.ownBlock = some w.heap.size) ∧
      (∀ b i, i < h b → w'.cell? ⟨b, i, none⟩ = w.cell? ⟨b, i, none⟩) ∧ (v'.ownBlock = none → v.ownBlock = none) ∧
      (∀ (b : Nat) (cs : Array Value) (T : TypeId) (f : Nat × Nat), w.heap[b]? = some (.cells cs T f) → ∃ cs' T' f', w'.heap[b]? = some (.cells cs' T' f') ∧ cs'.size = cs.size) := by
  have hu := tslice_spec ht
  have hrows := rowsLen xs z hx
  simp only [Rep] at hy
  obtain ⟨i, hi1, hi2⟩ := Option.map_eq_some_iff.1 hz
  obtain ⟨i', hi1', hi3⟩ := Option.map_eq_some_iff.1 hby
  obtain ⟨i'', hi1'', hi4⟩ := Option.bind_eq_some_iff.1 hzv
  rw [hi1] at hi1' hi1''
  injection hi1' with q; subst q
  injection hi1'' with q; subst q
  rcases hy with ⟨rfl, ay, cy, rfl, hay⟩ | ⟨gy, offy, capy, rfl, hcy, hhy, hzy, hry⟩
  · -- nothing is appended
    have hv : ∃ b c, v = .slice b xs.length c ∧ xs.length ≤ c := by
      rcases hown.2 with ⟨rfl, q⟩ | ⟨g, cap, cur, rfl, _, _, q, _⟩
      · exact ⟨none, 0, by rw [q], by omega⟩
      · exact ⟨_, cap, rfl, q⟩
    obtain ⟨b, c, rfl, hc⟩ := hv
    refine ⟨_, w, vals, run_append_none hu hz ty b _ c hc ay cy w, by simpa using hown, by simpa using hx, by simpa using hr, h1, ⟨rfl, rfl, rfl, Nat.le_refl _, fun _ _ _ => rfl⟩, .inr (.inl rfl), fun _ _ _ => rfl, fun h => h, fun b cs T f q => ⟨cs, T, f, q, rfl⟩⟩
  · obtain ⟨news, hnl, hnews, hnr, hn1⟩ := rows_vals hzy hry
    obtain ⟨v', w', q1, q2, q3, q4, q5⟩ := run_append_own_at (P := P) w 0 t ty e i zv z by_ hu hi1 hi4 hi2 hi3 hzz h0 v xs.length vals hown ⟨gy, offy, none⟩ ys.length capy news hnl
      (fun j u hj => by rw [addr_add]; exact hnews j u hj) hn1 hm hb (by omega)
    refine ⟨v', w', vals ++ news, q1, by simpa using q2, fun x hxx => ?_, RepRows.append (by rw [hrows, hown.1]) hr hnr, fun u hu => ?_, q3, ?_, ?_, ?_, ?_⟩
    · rcases List.mem_append.1 hxx with q | q
      · exact hx x q
      · exact hzy x q
    · rcases List.mem_append.1 hu with q | q
      · exact h1 u q
      · exact hn1 u q
    · rcases q5 with q | q
      · exact .inr (.inl q)
      · exact .inr (.inr q)
    · intro b k hk
      have hblt : b < w.heap.size := by
        rcases Nat.lt_or_ge b w.heap.size with q | q
        · exact q
        · rw [hhz b q] at hk; omega
      by_cases hvb : v.ownBlock = some b
      · rcases hown.2 with ⟨rfl, _⟩ | ⟨g, cap, cur, rfl, _, hgh, hnc, hcm, hcs, htake⟩
        · simp [Value.ownBlock] at hvb
        · have hgb : g = b := by simpa [Value.ownBlock] using hvb
          subst hgb
          by_cases hroom : xs.length + ys.length ≤ cap
          · have hfit : xs.length * i.size + news.length ≤ cur.size := by rw [hi2, hnl, hcs, ← Nat.add_mul]; exact Nat.mul_le_mul_right _ hroom
            have hr2 := run_append_room (P := P) w t ty e i hu hi1 g xs.length cap cur hgh ⟨gy, offy, none⟩ ys.length capy news (by rw [hi2]; exact hnl)
              (fun j u hj => by rw [addr_add]; exact hnews j u hj) hn1 hroom hfit
            rw [q1] at hr2
            injection hr2 with e1 e2
            rw [e2]
            have hk2 : k < xs.length * z := by rw [hg g rfl] at hk; exact hk
            rw [hi2] at hfit ⊢
            simp only [World.cell?, setRow_heap w g cur _ e _ hgh, hgh]
            have : (cur.toList.take (xs.length * z) ++ news ++ cur.toList.drop (xs.length * z + news.length))[k]? = cur.toList[k]? := by
              rw [List.append_assoc, List.getElem?_append_left (by simp; omega), List.getElem?_take, if_pos hk2]
            simp only [Option.isSome_none, Bool.false_eq_true, if_false]
            rw [← Array.getElem?_toList, this, Array.getElem?_toList]
          · have holds : ∀ j u, vals[j]? = some u → w.cell? ((⟨g, 0, none⟩ : Addr).add j) = some u := hown.cells (g := g) rfl
            have hr2 := run_append_grow (P := P) w t ty e i zv hu hi1 hi4 ⟨g, 0, none⟩ xs.length cap vals (by rw [hi2]; exact hown.1) holds ⟨gy, offy, none⟩ ys.length capy news (by rw [hi2]; exact hnl)
              (fun j u hj => by rw [addr_add]; exact hnews j u hj) (by omega) (by simp only [maxLen] at hm; omega) (by rw [hi3]; exact growslice_fits (by omega) hb)
            rw [q1] at hr2
            injection hr2 with e1 e2
            rw [e2]
            have hlt' : g < w.drew.heap.size := hblt
            simp only [World.cell?, heap_alloc_old w.drew _ hlt']
            rfl
      · simp only [World.cell?, q3.block b hblt (fun e => hvb e.symm)]
    · intro hn
      rcases q5 with q | q
      · rw [← q]; exact hn
      · rw [hn] at q; cases q
    · intro b cs T f hb
      have hblt : b < w.heap.size := (Array.getElem?_eq_some_iff.1 hb).1
      by_cases hvb : v.ownBlock = some b
      · rcases hown.2 with ⟨rfl, _⟩ | ⟨g, cap, cur, rfl, _, hgh, hnc, hcm, hcs, htake⟩
        · simp [Value.ownBlock] at hvb
        · have hgb : g = b := by simpa [Value.ownBlock] using hvb
          subst hgb
          rw [hgh] at hb; injection hb with hb; injection hb with hb1 hb2 hb3; subst hb1
          by_cases hroom : xs.length + ys.length ≤ cap
          · have hfit : xs.length * i.size + news.length ≤ cur.size := by rw [hi2, hnl, hcs, ← Nat.add_mul]; exact Nat.mul_le_mul_right _ hroom
            have hr2 := run_append_room (P := P) w t ty e i hu hi1 g xs.length cap cur hgh ⟨gy, offy, none⟩ ys.length capy news (by rw [hi2]; exact hnl)
              (fun j u hj => by rw [addr_add]; exact hnews j u hj) hn1 hroom hfit
            rw [q1] at hr2
            injection hr2 with e1 e2
            rw [e2]
            exact ⟨_, e, _, setRow_heap w g cur _ e _ hgh, by simp; omega⟩
          · have holds : ∀ j u, vals[j]? = some u → w.cell? ((⟨g, 0, none⟩ : Addr).add j) = some u := hown.cells (g := g) rfl
            have hr2 := run_append_grow (P := P) w t ty e i zv hu hi1 hi4 ⟨g, 0, none⟩ xs.length cap vals (by rw [hi2]; exact hown.1) holds ⟨gy, offy, none⟩ ys.length capy news (by rw [hi2]; exact hnl)
              (fun j u hj => by rw [addr_add]; exact hnews j u hj) (by omega) (by simp only [maxLen] at hm; omega) (by rw [hi3]; exact growslice_fits (by omega) hb)
            rw [q1] at hr2
            injection hr2 with e1 e2
            rw [e2]
            have hlt' : g < w.drew.heap.size := hblt
            exact ⟨cur, e, _, by rw [heap_alloc_old w.drew _ hlt']; exact hgh, rfl⟩
      · exact ⟨cs, T, f, by rw [q3.block b hblt (fun e => hvb e.symm)]; exact hb, rfl⟩
end Go.Proofs.Dm
