/- Part of the proof: contracts of the functions, walked by the D-machine. No condition. -/
import Derived.Test.YtmbnkgagicgcoaaDoorDb
set_option linter.unusedVariables false
set_option linter.unusedSimpArgs false
namespace Go.Proofs.Dm
open Go Go.RowKit

def solids : List DV → Bool
  | [] => true
  | d :: ds => solid d && solids ds
theorem solids_get : ∀ {ds : List DV}, solids ds = true → ∀ (i : Nat) (d : DV), ds[i]? = some d → solid d = true
  | [], _, i, d, h => by simp at h
  | d' :: ds, hs, 0, d, h => by simp only [solids, Bool.and_eq_true] at hs; simp at h; subst h; exact hs.1
  | d' :: ds, hs, i + 1, d, h => by simp only [solids, Bool.and_eq_true] at hs; exact solids_get hs.2 i d (by simpa using h)

def mvStore (t id off : Nat) (agg : Bool) : Pos → Pos
  | .tmp (i :: q) => if i = t then .cell (id :: (if agg then (match q with | k :: p => (off + k) :: p | [] => [off]) else off :: q)) else .tmp (i :: q)
  | x => x
def storeD (P : Program) (o : Oper) (t : TypeId) (x y : Operand) (s : St) : Option St :=
  match o.dst, tsz P t with
  | none, some z => match evalD s x, evalD s y with
    | some (.ref id off), some v => match flat v, s.hp[id]? with
      | some cs, some box => if cs.length = z ∧ off + z ≤ box.length ∧ solids cs = true ∧ box ≠ [] then
          (if hasOwn v then (match y with
            | .tmp ty => some { s.put (some ty) .un with hp := s.hp.set id (box.take off ++ coerCells P (tcells P t) cs ++ box.drop (off + z)) }
            | _ => none) else some { s with hp := s.hp.set id (box.take off ++ coerCells P (tcells P t) cs ++ box.drop (off + z)) }) else none
      | _, _ => none
    | _, _ => none
  | _, _ => none

theorem splice3_get {α : Type} (l m : List α) (off z : Nat) (hm : m.length = z) (hl : off + z ≤ l.length) (i : Nat) :
    (l.take off ++ m ++ l.drop (off + z))[i]? = if off ≤ i ∧ i < off + z then m[i - off]? else l[i]? := by
  by_cases h1 : i < off
  · rw [if_neg (by omega), List.append_assoc, List.getElem?_append_left (by simp; omega), List.getElem?_take, if_pos h1]
  · by_cases h2 : i < off + z
    · rw [if_pos ⟨by omega, h2⟩, List.getElem?_append_left (by simp; omega), List.getElem?_append_right (by simp; omega)]
      congr 1
      simp; omega
    · rw [if_neg (by omega), List.getElem?_append_right (by simp; omega), List.getElem?_drop]
      congr 1
      simp; omega

/-- A store into a box: whatever positions the new cells' owners have. -/
theorem Rel.stored {C w0 h0 ow0 r0 n s a w h ow ρ} (r : Rel C w0 h0 ow0 r0 n s a w h ow ρ) {id off z b : Nat} {box ds : List DV} {vs : List Value} {cs : Array Value} {T : TypeId}
    (hb : s.hp[id]? = some box) (hρ : ρ[id]? = some b) (hh : w.heap[b]? = some (.cells cs T (0, 0))) (hz : ds.length = z) (hoff : off + z ≤ box.length) (hne : box ≠ [])
    (f : Pos → Pos) (hbox : ∀ i, f (.box i) = .box i) (hcell : ∀ p, f (.cell p) = .cell p)
    (hds : RepDs w h ρ ds (fun g q => match q with | k :: p => (ow g).map f = some (.cell (id :: (off + k) :: p)) | [] => False) 0 vs)
    (s' : St) (hs' : s'.hp = s.hp.set id (box.take off ++ ds ++ box.drop (off + z))) (hdom : ∀ i, n ≤ i → s'.tm i = .un)
    (htm : ∀ i, s'.tm i = .un ∨ (s'.tm i = s.tm i ∧ ∀ p, f (.tmp (i :: p)) = .tmp (i :: p))) :
    Rel C w0 h0 ow0 r0 n s' a (w.setRow b (cs.toList.take off ++ vs ++ cs.toList.drop (off + z)).toArray) h (fun g => (ow g).map f) ρ := by
  obtain ⟨p1, p2, cs0, T0, hh0, hbl, hrr⟩ := r.hr.box id box b hb hρ hne
  rw [hh] at hh0
  obtain ⟨rfl, rfl⟩ : cs = cs0 ∧ T = T0 := by injection hh0 with hh0; injection hh0 with q1 q2; exact ⟨q1, q2⟩
  have hlen := hrr.length
  have hvl := hds.length
  have hst : Stable w h (w.setRow b (cs.toList.take off ++ vs ++ cs.toList.drop (off + z)).toArray) h := ⟨fun _ => Nat.le_refl _, fun b' i hi => by
    have hne : b' ≠ b := by
      intro e; subst e; rw [p2] at hi; omega
    simp only [World.cell?, setRow_other w b b' _ hne], fun b' cs' T' f' q => by
    by_cases hbb : b' = b
    · subst hbb
      rw [hh] at q; injection q with q; injection q with q1 q2 q3; subst q1
      exact ⟨_, T, _, setRow_heap w b' cs _ T _ hh, by simp; omega⟩
    · exact ⟨cs', T', f', by rw [setRow_other w b b' _ hbb]; exact q, rfl⟩⟩
  have hO : ∀ (P : Nat → List Nat → Prop) (Q : Nat → List Nat → Prop), (∀ g p, P g p → ow g ≠ some (.box id)) → (∀ g p, P g p → Q g p) →
      ∀ g p, P g p → (w.setRow b (cs.toList.take off ++ vs ++ cs.toList.drop (off + z)).toArray).heap[g]? = w.heap[g]? ∧ h g = h g ∧ Q g p := by
    intro P Q h1 h2 g p hp
    have hne : g ≠ b := fun e => h1 g p hp (by rw [e]; exact p1)
    exact ⟨setRow_other w b g _ hne, rfl, h2 g p hp⟩
  have hsz : (w.setRow b (cs.toList.take off ++ vs ++ cs.toList.drop (off + z)).toArray).heap.size = w.heap.size := by simp [World.setRow]
  have hfr : Fr w h ow (w.setRow b (cs.toList.take off ++ vs ++ cs.toList.drop (off + z)).toArray) h (fun g => (ow g).map f) :=
    ⟨hst, by rw [hsz]; exact Nat.le_refl _, rfl, rfl, rfl, fun b' hb' ho => ⟨setRow_other w b b' _ (fun e => by rw [e, p1] at ho; cases ho), rfl, by simp [ho]⟩⟩
  refine ⟨r.glob.fr hfr, r.fr.trans hfr, ⟨by rw [hs']; simp [r.hr.len], fun i bx b' h1 h2 hne' => ?_, fun g hg => ?_, fun b' hb' => r.hr.hz b' (by rw [hsz] at hb'; exact hb')⟩, r.defers, r.size, fun i => ?_, hdom, r.pre⟩
  · rw [hs'] at h1
    by_cases hi : i = id
    · subst hi
      rw [hρ] at h2; injection h2 with h2; subst h2
      have hlt : i < s.hp.length := (List.getElem?_eq_some_iff.1 hb).1
      rw [List.getElem?_set_self hlt] at h1
      injection h1 with h1; subst h1
      have hnl : (box.take off ++ ds ++ box.drop (off + z)).length = box.length := by simp; omega
      refine ⟨by simp [p1, hbox], p2, _, T, setRow_heap w b cs _ T _ hh, by rw [hnl]; simp; omega, RepDs.of_get (by rw [hnl]; simp; omega) fun k d1 v hd1 hv1 => ?_⟩
      · have hkl : k < box.length := by rw [← hnl]; exact (List.getElem?_eq_some_iff.1 hd1).1
        have hv1 : ((cs.toList.take off ++ vs ++ cs.toList.drop (off + z)).take (box.take off ++ ds ++ box.drop (off + z)).length)[k]? = some v := hv1
        rw [List.getElem?_take, hnl, if_pos hkl] at hv1
        rw [splice3_get box ds off z hz hoff k] at hd1
        rw [splice3_get cs.toList vs off z (by omega) (by simp; omega) k] at hv1
        split at hd1
        · rename_i hk
          rw [if_pos hk] at hv1
          obtain ⟨v', q1, q2⟩ := hds.get _ d1 hd1
          rw [q1] at hv1; injection hv1 with hv1; subst hv1
          refine RepD.step hst (fun _ _ h => h) d1 _ _ _ (hO _ _ (fun g p ho e => ?_) (fun g p ho => ?_)) q2
          · simp only [Nat.zero_add] at ho
            rw [e] at ho; simp [hbox] at ho
          · simp only [Nat.zero_add] at ho ⊢
            rw [ho]
            have : off + (k - off) = k := by omega
            rw [this]
        · rename_i hk
          rw [if_neg hk] at hv1
          obtain ⟨v', q1, q2⟩ := hrr.get k d1 hd1
          rw [List.getElem?_take, if_pos hkl] at q1
          rw [q1] at hv1; injection hv1 with hv1; subst hv1
          exact RepD.step hst (fun _ _ h => h) d1 _ _ _ (hO _ _ (fun g p ho e => by rw [e] at ho; simp at ho) (fun g p ho => by simp [ho, hcell])) q2
    · rw [List.getElem?_set_ne (fun e => hi e.symm)] at h1
      obtain ⟨p1', p2', cs', T', hh', hl', hrr'⟩ := r.hr.box i bx b' h1 h2 hne'
      have hne : b' ≠ b := fun e => by rw [e, p1] at p1'; injection p1' with p1'; injection p1' with p1'; exact hi p1'.symm
      refine ⟨by simp [p1', hbox], p2', cs', T', by rw [setRow_other w b b' _ hne]; exact hh', hl', ?_⟩
      exact RepDs.step hst (fun _ _ h => h) bx _ _ 0 _ (hO _ _ (fun g p ho e => by rw [e] at ho; simp at ho) (fun g p ho => by simp [ho, hcell])) hrr'
  · rw [hsz]
    exact r.hr.lt g (fun e => hg (by simp [e]))
  · rcases htm i with e | ⟨e, q⟩
    · rw [e]; simp only [RepD]
    · rw [e]
      exact RepD.step hst (fun _ _ h => h) _ _ _ _ (hO _ _ (fun g p ho e => by rw [e] at ho; simp at ho) (fun g p ho => by simp [ho, q])) (r.tm i)

theorem storeD_ok {C w0 h0 ow0 r0 n o t x y s s'} (hop : o.op = .store t x y) (e : storeD C.P o t x y s = some s') : StepOK C w0 h0 ow0 r0 n o s s' := by
  intro a w h ow ρ r K Q hK
  unfold storeD at e
  split at e
  · rename_i z hdst hz
    split at e
    · rename_i id off v hx hy
      split at e
      · rename_i cs box hf hb
        split at e
        · rename_i hc
          obtain ⟨hcl, hoff, hsol, hne⟩ := hc
          have hx' := evalD_rep r hx
          simp only [RepD] at hx'
          obtain ⟨b, hρ, hv⟩ := hx'
          obtain ⟨p1, p2, cs0, T, hh, hbl, hrr⟩ := r.hr.box id box b hb hρ hne
          obtain ⟨O', hr, hO'⟩ := flat_rep hf (evalD_rep r hy)
          have hlen := hrr.length
          have hvl := hr.length
          have hone : ∀ u ∈ (a.eval y).cells.toList, u.oneCell' = true := by
            intro u hu
            obtain ⟨i, hi⟩ := List.mem_iff_getElem?.1 hu
            have : i < cs.length := by rw [← hvl]; exact (List.getElem?_eq_some_iff.1 hi).1
            obtain ⟨v', q1, q2⟩ := hr.get i cs[i] (List.getElem?_eq_getElem this)
            rw [q1] at hi; injection hi with hi; subst hi
            exact solid_one (solids_get hsol i _ (List.getElem?_eq_getElem this)) q2
          have hst := run_storeCells_at C.P b off T (a.eval y).cells.toList 0 cs0 w hh (by simp at hlen hvl ⊢; omega) hone
          have hrun : (execOp a.eval o).run C.P w = .ok .skip (w.setRow b (cs0.toList.take off ++ (a.eval y).cells.toList ++ cs0.toList.drop (off + z)).toArray) := by
            have hsz : (a.eval y).cells.size = z := by simp at hvl; omega
            simp only [execOp, hop, hv, Instr.storeAt, Instr.sureAddr, storeVar, Sem.run_bind, Sem.run_pure, Result.andThen_ok, tsz_spec hz, hsz]
            simp only [ne_eq, not_true_eq_false, if_false, Sem.run_bind, Sem.run_pure, Result.andThen_ok]
            have : (a.eval y).cells.toList.length = z := by omega
            simp only [Nat.add_zero, this] at hst
            rw [hst]
            rfl
          unfold Oper.wp
          rw [hrun]
          show K (a.put o.dst undef) _
          rw [hdst]
          split at e
          · rename_i hown
            split at e
            · rename_i ty
              injection e with e; subst e
              refine hK a _ h _ ρ (r.stored (z := z) hb hρ hh (by rw [coerCells_len]; exact hcl) hoff hne (mvStore ty id off (isAggD v)) (fun i => rfl) (fun p => rfl)
                (RepDs.wk (coerCells_wk _ _ _) (RepDs.of_get hvl fun i d u hd hu => ?_)) _ rfl (fun i hi => ?_) (fun i => ?_))
              · obtain ⟨v', q1, q2⟩ := hr.get i d hd
                rw [q1] at hu; injection hu with hu; subst hu
                refine q2.rename fun g p ho => ?_
                have ho2 : ow g = some (.tmp (ty :: (if isAggD v then (0 + i) :: p else p))) := hO' g (0 + i) p ho
                simp only [Nat.zero_add] at ho2 ⊢
                rw [ho2]
                simp only [Option.map_some, mvStore, if_true]
                by_cases hag : isAggD v = true
                · simp [hag]
                · simp only [hag, Bool.false_eq_true, if_false]
                  have : i = 0 := by
                    have hi := (List.getElem?_eq_some_iff.1 hd).1
                    have : cs.length = 1 := by
                      cases v <;> simp [isAggD] at hag <;> simp only [flat] at hf <;> split at hf <;> first
                        | (injection hf with hf; subst hf; rfl)
                        | cases hf
                    omega
                  subst this
                  simp
              · simp only [St.put]
                split
                · rfl
                · exact r.dom i hi
              · simp only [St.put]
                by_cases hit : i = ty
                · rw [if_pos hit]; exact .inl rfl
                · rw [if_neg hit]; exact .inr ⟨rfl, fun p => by simp [mvStore, hit]⟩
            · cases e
          · rename_i hown
            injection e with e; subst e
            have hmap : (fun g => (ow g).map (fun x => x)) = ow := by funext g; cases ow g <;> rfl
            have := r.stored (z := z) (ds := coerCells C.P (tcells C.P t) cs) hb hρ hh (by rw [coerCells_len]; exact hcl) hoff hne (fun x => x) (fun i => rfl) (fun p => rfl)
                (vs := (a.eval y).cells.toList) (RepDs.wk (coerCells_wk _ _ _) ?_) { s with hp := s.hp.set id (box.take off ++ coerCells C.P (tcells C.P t) cs ++ box.drop (off + z)) } rfl r.dom
                (fun i => .inr ⟨rfl, fun p => rfl⟩)
            · exact hK a _ h _ ρ this
            · obtain ⟨O2, hr2, _⟩ := flat_rep hf (RepD.free _ _ (fun _ _ => False) _ (by simpa using hown) (evalD_rep r hy))
              refine RepDs.of_get hr2.length fun i d u hd hu => ?_
              obtain ⟨v', q1, q2⟩ := hr2.get i d hd
              rw [q1] at hu; injection hu with hu; subst hu
              obtain ⟨O3, hr3, hO3⟩ := flat_rep hf (RepD.free _ _ (fun _ _ => False) _ (by simpa using hown) (evalD_rep r hy))
              obtain ⟨v3, q3, q4⟩ := hr3.get i d hd
              rw [q1] at q3; injection q3 with q3; subst q3
              exact q4.rename fun g p ho => (hO3 g (0 + i) p ho).elim
        · cases e
      · cases e
    · cases e
  · cases e
end Go.Proofs.Dm

set_option linter.unusedVariables false
set_option linter.unusedSimpArgs false
namespace Go.Proofs.Dm
open Go Go.RowKit

theorem pd_one {w h} {c : PD} {u : Value} (r : Rep w h c u) : u.oneCell' = true := by
  have : RepD w h [] (.p c) (fun _ _ => False) u := by simpa only [RepD] using r
  exact solid_one (by cases c <;> rfl) this

/-- The values behind a frozen slice. -/
theorem rows_vals {w h} {xs : List (List PD)} {z g off : Nat} (hz : ∀ x ∈ xs, x.length = z) (r : RepRows w h xs (fun j => w.cell? ⟨g, off + j, none⟩)) :
    ∃ vs : List Value, vs.length = xs.length * z ∧ (∀ j u, vs[j]? = some u → w.cell? ⟨g, off + j, none⟩ = some u) ∧ RepRows w h xs (fun j => vs[j]?) ∧ ∀ u ∈ vs, u.oneCell' = true := by
  have hget : ∀ j, j < xs.length * z → ∃ u c, w.cell? ⟨g, off + j, none⟩ = some u ∧ Rep w h c u := by
    intro j hj
    have hz0 : 0 < z := by
      rcases Nat.eq_zero_or_pos z with e | e
      · subst e; simp at hj
      · exact e
    have hi : j / z < xs.length := (Nat.div_lt_iff_lt_mul hz0).2 hj
    have hrow := r.get hz (j / z) xs[j / z] (List.getElem?_eq_getElem hi)
    have hm : j % z < (xs[j / z]).length := by rw [hz _ (List.getElem_mem hi)]; exact Nat.mod_lt _ hz0
    obtain ⟨u, q1, q2⟩ := hrow.get (j % z) _ (List.getElem?_eq_getElem hm)
    have e : j / z * z + j % z = j := by rw [Nat.mul_comm]; exact Nat.div_add_mod j z
    simp only [e] at q1
    exact ⟨u, _, q1, q2⟩
  refine ⟨(List.range (xs.length * z)).map fun j => (w.cell? ⟨g, off + j, none⟩).getD undef, by simp, ?_, ?_, ?_⟩
  · intro j u hj
    rw [List.getElem?_map] at hj
    obtain ⟨i, hi1, hi2⟩ := Option.map_eq_some_iff.1 hj
    have hjz : j < xs.length * z := by
      have := (List.getElem?_eq_some_iff.1 hi1).1
      simpa using this
    rw [List.getElem?_range hjz] at hi1
    injection hi1 with hi1; subst hi1
    obtain ⟨u', c, q1, q2⟩ := hget j hjz
    rw [q1] at hi2 ⊢
    simpa using hi2
  · refine RepRows.mono (Stable.refl w h) xs _ _ (xs.length * z) (fun j hj => ?_) (rowsLen xs z hz) r
    rw [List.getElem?_map, List.getElem?_range hj]
    obtain ⟨u', c, q1, q2⟩ := hget j hj
    simp [q1]
  · intro u hu
    obtain ⟨j, hj, rfl⟩ := List.mem_map.1 hu
    obtain ⟨u', c, q1, q2⟩ := hget j (by simpa using hj)
    rw [q1]
    exact pd_one q2

theorem RepRows.append {w h} : ∀ {xs ys : List (List PD)} {vs us : List Value}, (xs.map List.length).sum = vs.length → RepRows w h xs (fun j => vs[j]?) → RepRows w h ys (fun j => us[j]?) →
    RepRows w h (xs ++ ys) (fun j => (vs ++ us)[j]?) := by
  intro xs
  induction xs with
  | nil =>
    intro ys vs us hl _ h2
    have : vs = [] := List.eq_nil_of_length_eq_zero (by simpa using hl.symm)
    subst this
    simpa using h2
  | cons x xs ih =>
    intro ys vs us hl h1 h2
    simp only [List.map_cons, List.sum_cons] at hl
    simp only [RepRows, List.cons_append] at h1 ⊢
    refine ⟨RepRow.mono (Stable.refl w h) x _ _ x.length (fun j hj => ?_) (Nat.le_refl _) h1.1, ?_⟩
    · rw [List.getElem?_append_left (by omega)]
    · have := ih (ys := ys) (vs := vs.drop x.length) (us := us) (by simp; omega) (by
        refine RepRows.mono (Stable.refl w h) xs _ _ _ (fun j hj => ?_) rfl h1.2
        rw [List.getElem?_drop]) h2
      refine RepRows.mono (Stable.refl w h) (xs ++ ys) _ _ _ (fun j hj => ?_) rfl this
      by_cases hlt : x.length + j < vs.length
      · rw [List.getElem?_append_left hlt, List.getElem?_append_left (by simp; omega), List.getElem?_drop]
      · rw [List.getElem?_append_right (by omega), List.getElem?_append_right (by simp; omega)]
        congr 1
        simp; omega

def appBase (P : Program) (e z : Nat) (s : St) (x : Operand) : Option (List (List PD) × Option Tmp) :=
  match evalD s x with
  | some (.own e' z' xs) => match x with
    | .tmp t => if e' = e ∧ z' = z then some (xs, some t) else none
    | _ => none
  | some .nil => some ([], none)
  | _ => none
def appMore (z : Nat) (s : St) (y : Operand) : Option (List (List PD)) :=
  match evalD s y with
  | some .nil => some []
  | some d => match elems d with
    | some (z', ys) => if z' = z then some ys else none
    | none => none
  | none => none
def appendD (P : Program) (o : Oper) (c : Call) (s : St) : Option St :=
  match c.callee with
  | .builtin .append => match c.args.toList, c.argTypes.toList with
    | [x, y], [t, t'] => match tslice P t with
      | some e => match tsz P e, tbytes P e, tzero P e, o.dst with
        | some z, some by_, some zv, some d => match appBase P e z s x, appMore z s y with
          | some (xs, own?), some ys => if t = t' ∧ 0 < z ∧ zv.cells.size = z ∧ (xs.length + ys.length) * by_ ≤ 140737488355328 ∧ xs.length + ys.length ≤ maxLen then
              some ((s.put own? .un).put (some d) (.own e z (xs ++ ys))) else none
          | _, _ => none
        | _, _, _, _ => none
      | none => none
    | _, _ => none
  | _ => none

theorem run_append_none {P : Program} {t e : TypeId} (ht : P.underlying t = some (.slice e)) {z : Nat} (hz : tsz P e = some z) (ty : TypeId) (b : Option Addr) (n c : Nat) (hc : n ≤ c) (a : Option Addr) (k : Nat) (w : World) :
    (Builtin.append_ #[t, t] ty #[.slice b n c, .slice a 0 k]).run P w = .ok (.slice b n c) w := by
  have hl : ∀ (x : Addr), (loadCells x 0).run P w = .ok #[] w := fun x => by simpa using run_loadCells_list (P := P) w x [] (by simp)
  cases b <;> cases a <;> simp [Builtin.append_, run_underlying ht, tsz_spec hz, Builtin.lenOf, Builtin.firstCells, hc, storeCells, hl]

/-- What append comes to. -/
theorem append_core {P : Program} {t e : TypeId} {z by_ : Nat} {zv : Value} (ht : tslice P t = some e) (hz : tsz P e = some z) (hby : tbytes P e = some by_) (hzv : tzero P e = some zv) (h0 : 0 < z) (hzz : zv.cells.size = z)
    {w : World} {h : Mark} {xs ys : List (List PD)} {v vy : Value} {vals : List Value} (ty : TypeId)
    (hown : w.ownsRow 0 e z v xs.length vals) (hx : ∀ x ∈ xs, x.length = z) (hr : RepRows w h xs (fun j => vals[j]?)) (h1 : ∀ u ∈ vals, u.oneCell' = true) (hg : ∀ g, v.ownBlock = some g → h g = xs.length * z)
    (hhz : ∀ b, w.heap.size ≤ b → h b = 0)
    (hy : Rep w h (.sl z ys) vy) (hb : (xs.length + ys.length) * by_ ≤ 140737488355328) (hm : xs.length + ys.length ≤ maxLen) :
    ∃ v' w' vals', (Builtin.append_ #[t, t] ty #[v, vy]).run P w = .ok v' w' ∧ w'.ownsRow 0 e z v' (xs ++ ys).length vals' ∧ (∀ x ∈ xs ++ ys, x.length = z) ∧ RepRows w h (xs ++ ys) (fun j => vals'[j]?) ∧
      (∀ u ∈ vals', u.oneCell' = true) ∧ w.grownBy w' v.ownBlock ∧ (v'.ownBlock = none ∨ v'.ownBlock = v.ownBlock ∨ v'.ownBlock = some w.heap.size) ∧
      (∀ b i, i < h b → w'.cell? ⟨b, i, none⟩ = w.cell? ⟨b, i, none⟩) ∧ (v'.ownBlock = none → v.ownBlock = none) ∧
      (∀ (b : Nat) (cs : Array Value) (T : TypeId) (f : Nat × Nat), w.heap[b]? = some (.cells cs T f) → ∃ cs' T' f', w'.heap[b]? = some (.cells cs' T' f') ∧ cs'.size = cs.size) := by
  have hu := tslice_spec ht
  have hrows := rowsLen xs z hx
  simp only [Rep] at hy
  obtain ⟨i, hi1, hi2⟩ := Option.map_eq_some_iff.1 hz
  obtain ⟨i', hi1', hi3⟩ := Option.map_eq_some_iff.1 hby
  obtain ⟨i'', hi1'', hi4⟩ := Option.bind_eq_some_iff.1 hzv
  rw [hi1] at hi1' hi1''
  injection hi1' with q; subst q
  injection hi1'' with q; subst q
  rcases hy with ⟨rfl, ay, cy, rfl, hay⟩ | ⟨gy, offy, capy, rfl, hcy, hhy, hzy, hry⟩
  · -- nothing is appended
    have hv : ∃ b c, v = .slice b xs.length c ∧ xs.length ≤ c := by
      rcases hown.2 with ⟨rfl, q⟩ | ⟨g, cap, cur, rfl, _, _, q, _⟩
      · exact ⟨none, 0, by rw [q], by omega⟩
      · exact ⟨_, cap, rfl, q⟩
    obtain ⟨b, c, rfl, hc⟩ := hv
    refine ⟨_, w, vals, run_append_none hu hz ty b _ c hc ay cy w, by simpa using hown, by simpa using hx, by simpa using hr, h1, ⟨rfl, rfl, rfl, Nat.le_refl _, fun _ _ _ => rfl⟩, .inr (.inl rfl), fun _ _ _ => rfl, fun h => h, fun b cs T f q => ⟨cs, T, f, q, rfl⟩⟩
  · obtain ⟨news, hnl, hnews, hnr, hn1⟩ := rows_vals hzy hry
    obtain ⟨v', w', q1, q2, q3, q4, q5⟩ := run_append_own_at (P := P) w 0 t ty e i zv z by_ hu hi1 hi4 hi2 hi3 hzz h0 v xs.length vals hown ⟨gy, offy, none⟩ ys.length capy news hnl
      (fun j u hj => by rw [addr_add]; exact hnews j u hj) hn1 hm hb (by omega)
    refine ⟨v', w', vals ++ news, q1, by simpa using q2, fun x hxx => ?_, RepRows.append (by rw [hrows, hown.1]) hr hnr, fun u hu => ?_, q3, ?_, ?_, ?_, ?_⟩
    · rcases List.mem_append.1 hxx with q | q
      · exact hx x q
      · exact hzy x q
    · rcases List.mem_append.1 hu with q | q
      · exact h1 u q
      · exact hn1 u q
    · rcases q5 with q | q
      · exact .inr (.inl q)
      · exact .inr (.inr q)
    · intro b k hk
      have hblt : b < w.heap.size := by
        rcases Nat.lt_or_ge b w.heap.size with q | q
        · exact q
        · rw [hhz b q] at hk; omega
      by_cases hvb : v.ownBlock = some b
      · rcases hown.2 with ⟨rfl, _⟩ | ⟨g, cap, cur, rfl, _, hgh, hnc, hcm, hcs, htake⟩
        · simp [Value.ownBlock] at hvb
        · have hgb : g = b := by simpa [Value.ownBlock] using hvb
          subst hgb
          by_cases hroom : xs.length + ys.length ≤ cap
          · have hfit : xs.length * i.size + news.length ≤ cur.size := by rw [hi2, hnl, hcs, ← Nat.add_mul]; exact Nat.mul_le_mul_right _ hroom
            have hr2 := run_append_room (P := P) w t ty e i hu hi1 g xs.length cap cur hgh ⟨gy, offy, none⟩ ys.length capy news (by rw [hi2]; exact hnl)
              (fun j u hj => by rw [addr_add]; exact hnews j u hj) hn1 hroom hfit
            rw [q1] at hr2
            injection hr2 with e1 e2
            rw [e2]
            have hk2 : k < xs.length * z := by rw [hg g rfl] at hk; exact hk
            rw [hi2] at hfit ⊢
            simp only [World.cell?, setRow_heap w g cur _ e _ hgh, hgh]
            have : (cur.toList.take (xs.length * z) ++ news ++ cur.toList.drop (xs.length * z + news.length))[k]? = cur.toList[k]? := by
              rw [List.append_assoc, List.getElem?_append_left (by simp; omega), List.getElem?_take, if_pos hk2]
            simp only [Option.isSome_none, Bool.false_eq_true, if_false]
            rw [← Array.getElem?_toList, this, Array.getElem?_toList]
          · have holds : ∀ j u, vals[j]? = some u → w.cell? ((⟨g, 0, none⟩ : Addr).add j) = some u := hown.cells (g := g) rfl
            have hr2 := run_append_grow (P := P) w t ty e i zv hu hi1 hi4 ⟨g, 0, none⟩ xs.length cap vals (by rw [hi2]; exact hown.1) holds ⟨gy, offy, none⟩ ys.length capy news (by rw [hi2]; exact hnl)
              (fun j u hj => by rw [addr_add]; exact hnews j u hj) (by omega) (by simp only [maxLen] at hm; omega) (by rw [hi3]; exact growslice_fits (by omega) hb)
            rw [q1] at hr2
            injection hr2 with e1 e2
            rw [e2]
            have hlt' : g < w.drew.heap.size := hblt
            simp only [World.cell?, heap_alloc_old w.drew _ hlt']
            rfl
      · simp only [World.cell?, q3.block b hblt (fun e => hvb e.symm)]
    · intro hn
      rcases q5 with q | q
      · rw [← q]; exact hn
      · rw [hn] at q; cases q
    · intro b cs T f hb
      have hblt : b < w.heap.size := (Array.getElem?_eq_some_iff.1 hb).1
      by_cases hvb : v.ownBlock = some b
      · rcases hown.2 with ⟨rfl, _⟩ | ⟨g, cap, cur, rfl, _, hgh, hnc, hcm, hcs, htake⟩
        · simp [Value.ownBlock] at hvb
        · have hgb : g = b := by simpa [Value.ownBlock] using hvb
          subst hgb
          rw [hgh] at hb; injection hb with hb; injection hb with hb1 hb2 hb3; subst hb1
          by_cases hroom : xs.length + ys.length ≤ cap
          · have hfit : xs.length * i.size + news.length ≤ cur.size := by rw [hi2, hnl, hcs, ← Nat.add_mul]; exact Nat.mul_le_mul_right _ hroom
            have hr2 := run_append_room (P := P) w t ty e i hu hi1 g xs.length cap cur hgh ⟨gy, offy, none⟩ ys.length capy news (by rw [hi2]; exact hnl)
              (fun j u hj => by rw [addr_add]; exact hnews j u hj) hn1 hroom hfit
            rw [q1] at hr2
            injection hr2 with e1 e2
            rw [e2]
            exact ⟨_, e, _, setRow_heap w g cur _ e _ hgh, by simp; omega⟩
          · have holds : ∀ j u, vals[j]? = some u → w.cell? ((⟨g, 0, none⟩ : Addr).add j) = some u := hown.cells (g := g) rfl
            have hr2 := run_append_grow (P := P) w t ty e i zv hu hi1 hi4 ⟨g, 0, none⟩ xs.length cap vals (by rw [hi2]; exact hown.1) holds ⟨gy, offy, none⟩ ys.length capy news (by rw [hi2]; exact hnl)
              (fun j u hj => by rw [addr_add]; exact hnews j u hj) (by omega) (by simp only [maxLen] at hm; omega) (by rw [hi3]; exact growslice_fits (by omega) hb)
            rw [q1] at hr2
            injection hr2 with e1 e2
            rw [e2]
            have hlt' : g < w.drew.heap.size := hblt
            exact ⟨cur, e, _, by rw [heap_alloc_old w.drew _ hlt']; exact hgh, rfl⟩
      · exact ⟨cs, T, f, by rw [q3.block b hblt (fun e => hvb e.symm)]; exact hb, rfl⟩
end Go.Proofs.Dm

set_option linter.unusedVariables false
set_option linter.unusedSimpArgs false
namespace Go.Proofs.Dm
open Go Go.RowKit

/-- A row that is new, or was appended to: it has its owner in slot d. -/
theorem Rel.appended {C w0 h0 ow0 r0 n s a w h ow ρ} (r : Rel C w0 h0 ow0 r0 n s a w h ow ρ) (own? : Option Tmp) (d : Nat) (hd : d < n) {v v' : Value} {w' : World} {e z : Nat} {xs' : List (List PD)} {vals' : List Value}
    (hvo : ∀ g, v.ownBlock = some g → ∃ ts, own? = some ts ∧ ow g = some (.tmp [ts])) (hgrow : w.grownBy w' v.ownBlock)
    (stab : ∀ b i, i < h b → w'.cell? ⟨b, i, none⟩ = w.cell? ⟨b, i, none⟩)
    (ksz : ∀ (b : Nat) (cs : Array Value) (T : TypeId) (f : Nat × Nat), w.heap[b]? = some (.cells cs T f) → ∃ cs' T' f', w'.heap[b]? = some (.cells cs' T' f') ∧ cs'.size = cs.size) (h0z : 0 < z) (hown : w'.ownsRow 0 e z v' xs'.length vals') (hx : ∀ x ∈ xs', x.length = z)
    (hr : RepRows w h xs' (fun j => vals'[j]?)) (h1 : ∀ u ∈ vals', u.oneCell' = true) (hat : v'.ownBlock = none ∨ v'.ownBlock = v.ownBlock ∨ v'.ownBlock = some w.heap.size)
    (hle : ∀ g, v'.ownBlock = some g → h g ≤ xs'.length * z) :
    Rel C w0 h0 ow0 r0 n ((s.put own? .un).put (some d) (.own e z xs')) (a.put (some d) v') w' (fun b => if v'.ownBlock = some b then xs'.length * z else h b)
      (fun b => if v'.ownBlock = some b then some (.tmp [d]) else ow b) ρ := by
  have hd' : d < a.tmps.size := by rw [r.size]; exact hd
  have hst : Stable w h w' (fun b => if v'.ownBlock = some b then xs'.length * z else h b) := ⟨fun b => by
    show h b ≤ if _ then _ else _
    split
    · rename_i q; exact hle b q
    · exact Nat.le_refl _, stab, ksz⟩
  have hnew : ∀ g, v'.ownBlock = some g → g < w'.heap.size := by
    intro g hg
    rcases hown.2 with ⟨rfl, _⟩ | ⟨g', cap, cur, rfl, _, hh, _⟩
    · simp [Value.ownBlock] at hg
    · have : g' = g := by simpa [Value.ownBlock] using hg
      subst this
      exact (Array.getElem?_eq_some_iff.1 hh).1
  -- whoever else owns keeps
  have hO : ∀ (P Q : Nat → List Nat → Prop), (∀ g p, P g p → ow g ≠ none ∧ v.ownBlock ≠ some g) → (∀ g p, P g p → Q g p) →
      ∀ g p, P g p → w'.heap[g]? = w.heap[g]? ∧ (if v'.ownBlock = some g then xs'.length * z else h g) = h g ∧ ((v'.ownBlock ≠ some g) ∧ Q g p) := by
    intro P Q q1 q2 g p hp
    obtain ⟨k1, k2⟩ := q1 g p hp
    have hlt := r.hr.lt g k1
    have hne : v'.ownBlock ≠ some g := by
      intro e
      rcases hat with q | q | q
      · rw [q] at e; cases e
      · rw [q] at e; exact k2 e
      · rw [q] at e; injection e with e; omega
    exact ⟨hgrow.block g hlt (fun e => k2 e.symm), by rw [if_neg hne], hne, q2 g p hp⟩
  have hfr : Fr w h ow w' (fun b => if v'.ownBlock = some b then xs'.length * z else h b) (fun b => if v'.ownBlock = some b then some (.tmp [d]) else ow b) :=
    ⟨hst, hgrow.size, hgrow.os, hgrow.tape, hgrow.output, fun b hb ho => by
      have k2 : v.ownBlock ≠ some b := fun e => by
        obtain ⟨ts, _, q⟩ := hvo b e
        rw [ho] at q; cases q
      have hne : v'.ownBlock ≠ some b := by
        intro e
        rcases hat with q | q | q
        · rw [q] at e; cases e
        · rw [q] at e; exact k2 e
        · rw [q] at e; injection e with e; omega
      exact ⟨hgrow.block b hb (fun e => k2 e.symm), by rw [if_neg hne], by rw [if_neg hne]; exact ho⟩⟩
  refine ⟨r.glob.fr hfr, r.fr.trans hfr, ⟨?_, fun i bx b g1 g2 hne => ?_, fun g hg => ?_, fun b hb => ?_⟩, r.defers, by simpa [Act.put] using r.size, fun i => ?_, fun i hi => ?_, r.pre⟩
  · cases own? <;> simp [St.put, r.hr.len]
  · have g1 : s.hp[i]? = some bx := by cases own? <;> simpa [St.put] using g1
    obtain ⟨p1, p2, cs, T, hh, hl0, hrr⟩ := r.hr.box i bx b g1 g2 hne
    have hnv : v.ownBlock ≠ some b := fun e => by
      obtain ⟨ts, _, q⟩ := hvo b e
      rw [p1] at q; cases q
    have hb := hO (fun g _ => g = b) (fun _ _ => True) (fun g p e => by rw [e, p1]; exact ⟨by simp, hnv⟩) (fun _ _ _ => trivial) b [] rfl
    refine ⟨by rw [if_neg hb.2.2.1]; exact p1, by rw [if_neg hb.2.2.1]; exact p2, cs, T, by rw [hb.1]; exact hh, hl0, ?_⟩
    refine RepDs.step hst (fun _ _ h => h) bx _ _ 0 _ (fun g p ho => ?_) hrr
    have := hO (fun g p => ow g = some (.cell (i :: p))) (fun g p => ow g = some (.cell (i :: p))) (fun g p e => ⟨by rw [e]; simp, fun e' => by
      obtain ⟨ts, _, q⟩ := hvo g e'
      rw [e] at q; cases q⟩) (fun _ _ h => h) g p ho
    exact ⟨this.1, this.2.1, by rw [if_neg this.2.2.1]; exact this.2.2.2⟩
  · by_cases q : v'.ownBlock = some g
    · exact hnew g q
    · rw [if_neg q] at hg
      exact Nat.lt_of_lt_of_le (r.hr.lt g hg) hgrow.size
  · have : v'.ownBlock ≠ some b := fun e => absurd (hnew b e) (Nat.not_lt_of_le hb)
    rw [if_neg this]
    exact r.hr.hz b (Nat.le_trans hgrow.size hb)
  · rw [getD_put a d _ i hd']
    have hold : RepD w' (fun b => if v'.ownBlock = some b then xs'.length * z else h b) ρ ((s.put own? .un).tm i) (fun g p => (if v'.ownBlock = some g then some (.tmp [d]) else ow g) = some (.tmp (i :: p))) (a.tmps.getD i undef) := by
      have main : (∀ ts, own? = some ts → i ≠ ts) → RepD w' (fun b => if v'.ownBlock = some b then xs'.length * z else h b) ρ (s.tm i) (fun g p => (if v'.ownBlock = some g then some (.tmp [d]) else ow g) = some (.tmp (i :: p))) (a.tmps.getD i undef) := by
        intro hne
        refine RepD.step hst (fun _ _ h => h) _ _ _ _ (fun g p ho => ?_) (r.tm i)
        have := hO (fun g p => ow g = some (.tmp (i :: p))) (fun g p => ow g = some (.tmp (i :: p))) (fun g p e => ⟨by rw [e]; simp, fun e' => by
          obtain ⟨ts, q1, q⟩ := hvo g e'
          rw [e] at q
          injection q with q; injection q with q; injection q with q q3
          exact hne ts q1 q⟩) (fun _ _ h => h) g p ho
        exact ⟨this.1, this.2.1, by rw [if_neg this.2.2.1]; exact this.2.2.2⟩
      cases own? with
      | none => exact main (fun ts e => by cases e)
      | some ts =>
        simp only [St.put]
        by_cases hit : i = ts
        · rw [if_pos hit]; simp only [RepD]
        · rw [if_neg hit]; exact main (fun ts' e => by injection e with e; subst e; exact hit)
    by_cases hid : i = d
    · rw [if_pos hid]
      simp only [St.put]
      rw [if_pos hid]
      simp only [RepD]
      refine ⟨vals', h0z, hown, hx, RepRows.mono hst xs' _ _ _ (fun _ _ => rfl) rfl hr, h1, fun g hg => ?_⟩
      simp only []
      rw [if_pos hg, if_pos hg]
      exact ⟨rfl, by rw [hid]⟩
    · rw [if_neg hid]
      have : ((s.put own? .un).put (some d) (.own e z xs')).tm i = (s.put own? .un).tm i := by simp only [St.put]; rw [if_neg hid]
      rw [this]; exact hold
  · have hne : i ≠ d := fun e => by rw [e] at hi; exact absurd hi (Nat.not_le_of_gt hd)
    have : ((s.put own? .un).put (some d) (.own e z xs')).tm i = (s.put own? .un).tm i := by simp only [St.put]; rw [if_neg hne]
    rw [this]
    cases own? with
    | none => exact r.dom i hi
    | some ts =>
      simp only [St.put]
      split
      · rfl
      · exact r.dom i hi

theorem appendD_ok {C w0 h0 ow0 r0 n o c s s'} (hop : o.op = .call c) (hd : dstOk n o.dst = true) (e : appendD C.P o c s = some s') : StepOK C w0 h0 ow0 r0 n o s s' := by
  intro a w h ow ρ r K Q hK
  obtain ⟨callee, args, types⟩ := c
  unfold appendD at e
  split at e
  · rename_i hc
    dsimp only at hc e
    subst hc
    split at e
    · rename_i x y t t' ha ht'
      have ha : args = #[x, y] := by rw [← Array.toArray_toList (xs := args), ha]
      have ht' : types = #[t, t'] := by rw [← Array.toArray_toList (xs := types), ht']
      subst ha; subst ht'
      split at e
      · rename_i el hts
        split at e
        · rename_i z by_ zv d hz hby hzv hdst
          split at e
          · rename_i xs own? ys hbase hmore
            split at e
            · rename_i hcond
              obtain ⟨rfl, h0z, hzz, hb, hm⟩ := hcond
              injection e with e; subst e
              -- what is appended
              have hy : Rep w h (.sl z ys) (a.eval y) := by
                unfold appMore at hmore
                split at hmore
                · rename_i hy
                  injection hmore with hmore; subst hmore
                  have := evalD_rep r hy
                  simp only [RepD] at this
                  simp only [Rep]; exact .inl ⟨trivial, none, 0, this, fun _ => rfl⟩
                · rename_i d' _ hy
                  split at hmore
                  · rename_i z' ys' he
                    split at hmore
                    · rename_i hzz'
                      injection hmore with hmore; subst hmore; subst hzz'
                      exact elems_rep he (evalD_rep r hy)
                    · cases hmore
                  · cases hmore
                · cases hmore
              -- what it is appended to
              have hxo : ∃ vals, w.ownsRow 0 el z (a.eval x) xs.length vals ∧ (∀ q ∈ xs, q.length = z) ∧ RepRows w h xs (fun j => vals[j]?) ∧ (∀ u ∈ vals, u.oneCell' = true) ∧
                  (∀ g, (a.eval x).ownBlock = some g → h g = xs.length * z) ∧ (∀ g, (a.eval x).ownBlock = some g → ∃ ts, own? = some ts ∧ ow g = some (.tmp [ts])) := by
                unfold appBase at hbase
                split at hbase
                · rename_i e' z' xs' hx
                  split at hbase
                  · rename_i ts
                    split at hbase
                    · rename_i hez
                      obtain ⟨rfl, rfl⟩ := hez
                      injection hbase with hbase; injection hbase with q1 q2; subst q1; subst q2
                      have := evalD_rep r hx
                      simp only [RepD] at this
                      obtain ⟨vals, k1, k2, k3, k4, k5, k6⟩ := this
                      exact ⟨vals, k2, k3, k4, k5, fun g hg => (k6 g hg).1, fun g hg => ⟨ts, rfl, (k6 g hg).2⟩⟩
                    · cases hbase
                  · cases hbase
                · rename_i hx
                  injection hbase with hbase; injection hbase with q1 q2; subst q1; subst q2
                  have := evalD_rep r hx
                  simp only [RepD] at this
                  rw [this]
                  exact ⟨[], ⟨by simp, .inl ⟨rfl, rfl⟩⟩, by simp, by simp only [RepRows], by simp, by simp [Value.ownBlock], by simp [Value.ownBlock]⟩
                · cases hbase
              obtain ⟨vals, k1, k2, k3, k4, k5, k6⟩ := hxo
              obtain ⟨v', w', vals', q1, q2, q3, q4, q5, q6, q7, q8, q9, q10⟩ := append_core hts hz hby hzv h0z hzz o.type k1 k2 k3 k4 k5 r.hr.hz hy hb hm
              unfold Oper.wp
              have hrun : (execOp a.eval o).run C.P w = .ok (.value v') w' := by
                simp [execOp, hop, resolve, invoke, builtin, q1]
              rw [hrun]
              show K (a.put o.dst v') w'
              rw [hdst] at hd ⊢
              refine hK _ _ _ _ _ (r.appended own? d (by simpa [dstOk] using hd) k6 q6 q8 q10 h0z q2 q3 q4 q5 q7 fun g hg => ?_)
              rcases q7 with q | q | q
              · rw [q] at hg; cases hg
              · rw [q] at hg
                rw [k5 g hg]
                exact Nat.mul_le_mul_right _ (by simp)
              · rw [q] at hg; injection hg with hg
                rw [r.hr.hz g (by omega)]; exact Nat.zero_le _
            · cases e
          · cases e
        · cases e
      · cases e
    · cases e
  · cases e

/-! ### buildSlice -/
def pds : List DV → Option (List PD)
  | [] => some []
  | .p x :: ds => (pds ds).map (x :: ·)
  | .own _ z xs :: ds => (pds ds).map (.sl z xs :: ·)
  | _ => none
theorem pds_rep {w h ρ} : ∀ {ds : List DV} {ps : List PD} {O k} {vs : List Value}, pds ds = some ps → RepDs w h ρ ds O k vs → RepRow w h ps (fun j => vs[j]?) ∧ ps.length = ds.length
  | [], ps, O, k, vs, e, r => by simp only [pds, Option.some.injEq] at e; subst e; simp [RepRow]
  | d :: ds, ps, O, k, vs, e, r => by
    simp only [RepDs] at r
    obtain ⟨v, rest, rfl, h1, h2⟩ := r
    cases d <;> simp only [pds] at e <;> first
      | (obtain ⟨qs, e1, e2⟩ := Option.map_eq_some_iff.1 e
         subst e2
         obtain ⟨i1, i2⟩ := pds_rep e1 h2
         refine ⟨?_, by simp [i2]⟩
         simp only [RepRow]
         refine ⟨⟨v, by simp, ?_⟩, by simpa using i1⟩
         simp only [RepD] at h1
         first | exact h1 | exact h1.freeze)
      | cases e
def rowsD (P : Program) (s : St) (e z : Nat) : Nat → List (Nat × Operand) → Option (List (List PD))
  | _, [] => some []
  | k, (i, x) :: rest => if i = k then (match evalD s x with
    | some v => match flat v with
      | some cs => match pds (coerCells P (tcells P e) cs) with
        | some row => if row.length = z then (rowsD P s e z (k + 1) rest).map (row :: ·) else none
        | none => none
      | none => none
    | none => none) else none
/-- A row that is built: of no element it may become a box. -/
def ownD (e z : Nat) : List (List PD) → DV
  | [] => .mt e z
  | r :: rs => .own e z (r :: rs)
theorem ownD_wk (e z : Nat) (rs : List (List PD)) : Wk (.own e z rs) (ownD e z rs) := by
  cases rs with
  | nil => exact .ownmt e z
  | cons r rs => exact .refl _
def buildSliceD (P : Program) (o : Oper) (t : TypeId) (len : Nat) (parts : List (Nat × Operand)) (s : St) : Option St :=
  match tslice P t, o.dst with
  | some e, some d => match tsz P e, tzero P e with
    | some z, some zv => match rowsD P s e z 0 parts with
      | some rows => if rows.length = len ∧ len * z ≤ 2 ^ 24 ∧ 0 < z ∧ zv.cells.size = z then some (s.put (some d) (ownD e z rows)) else none
      | none => none
    | _, _ => none
  | _, _ => none

theorem foldl_splice : ∀ (vs : List Value) (k off : Nat) (cells : Array Value), off + k + vs.length ≤ cells.size →
    ((vs.zipIdx k).foldl (fun (cs : Array Value) (x : Value × Nat) => cs.setIfInBounds (off + x.2) x.1) cells).toList = cells.toList.take (off + k) ++ vs ++ cells.toList.drop (off + k + vs.length)
  | [], k, off, cells, h => by simp
  | v :: vs, k, off, cells, h => by
    simp only [List.zipIdx_cons, List.foldl_cons, List.length_cons] at h ⊢
    rw [foldl_splice vs (k + 1) off _ (by simp; omega)]
    have hlt : off + k < cells.toList.length := by simp; omega
    simp only [Array.toList_setIfInBounds]
    rw [List.take_set, List.drop_set]
    have e1 : off + (k + 1) = off + k + 1 := by omega
    rw [e1, List.take_succ_eq_append_getElem hlt, if_pos (by omega)]
    have e2 : (cells.toList.take (off + k) ++ [cells.toList[off + k]]).set (off + k) v = cells.toList.take (off + k) ++ [v] := by
      rw [List.set_append_right _ _ (by simp; omega)]
      simp only [List.length_take]
      have : off + k - min (off + k) cells.toList.length = 0 := by omega
      rw [this]; rfl
    rw [e2]
    simp only [List.append_assoc, List.singleton_append]
    congr 3
    omega
theorem foldl_cells (v : Value) (off : Nat) (cells : Array Value) (h : off + v.cells.size ≤ cells.size) :
    (v.cells.zipIdx.foldl (fun cs (c, j) => cs.setIfInBounds (off + j) c) cells).toList = cells.toList.take off ++ v.cells.toList ++ cells.toList.drop (off + v.cells.size) := by
  have := foldl_splice v.cells.toList 0 off cells (by simpa using h)
  rw [← Array.foldl_toList, Array.toList_zipIdx]
  simpa using this

theorem rows_fill {C w0 h0 ow0 r0 n s a w h ow ρ} (r : Rel C w0 h0 ow0 r0 n s a w h ow ρ) {e z : Nat} : ∀ (parts : List (Nat × Operand)) (k : Nat) (rows : List (List PD)) (cells : Array Value),
    rowsD C.P s e z k parts = some rows → cells.size = (k + rows.length) * z →
    ∃ vals : List Value, Instr.fill (fun i => some (i * z, z)) cells (parts.map fun p => (p.1, a.eval p.2)) = some (cells.toList.take (k * z) ++ vals).toArray ∧
      vals.length = rows.length * z ∧ (∀ x ∈ rows, x.length = z) ∧ RepRows w h rows (fun j => vals[j]?) ∧ ∀ u ∈ vals, u.oneCell' = true
  | [], k, rows, cells, e1, hs => by
    simp only [rowsD, Option.some.injEq] at e1
    subst e1
    simp only [List.length_nil, Nat.add_zero] at hs
    refine ⟨[], ?_, by simp, by simp, by simp only [RepRows], by simp⟩
    simp only [List.map_nil, Instr.fill, List.append_nil]
    rw [List.take_of_length_le (by simp [hs]), Array.toArray_toList]
  | (i, x) :: rest, k, rows, cells, e1, hs => by
    simp only [rowsD] at e1
    split at e1
    · rename_i hik
      subst hik
      split at e1
      · rename_i v hv
        split at e1
        · rename_i cs hf
          split at e1
          · rename_i row hrow
            split at e1
            · rename_i hrz
              obtain ⟨rows', h1, h2⟩ := Option.map_eq_some_iff.1 e1
              subst h2
              obtain ⟨O', hr, _⟩ := flat_rep hf (evalD_rep r hv)
              have hrep := RepDs.wk (coerCells_wk C.P (tcells C.P e) cs) hr
              obtain ⟨k1, k2⟩ := pds_rep hrow hrep
              have hcl : (a.eval x).cells.size = z := by
                have := hrep.length
                simp only [Array.length_toList] at this
                omega
              simp only [List.length_cons] at hs
              have hfit : i * z + (a.eval x).cells.size ≤ cells.size := by
                rw [hs, hcl]
                have : (i + 1) * z ≤ (i + (rows'.length + 1)) * z := Nat.mul_le_mul_right _ (by omega)
                rw [Nat.add_mul, Nat.one_mul] at this; exact this
              have hfold := foldl_cells (a.eval x) (i * z) cells hfit
              have hsz : ((a.eval x).cells.zipIdx.foldl (fun cs (c, j) => cs.setIfInBounds (i * z + j) c) cells).size = cells.size := by
                rw [← Array.length_toList, hfold]
                simp; omega
              obtain ⟨vals, q1, q2, q3, q4, q5⟩ := rows_fill r rest (i + 1) rows' _ h1 (by rw [hsz, hs]; congr 1; omega)
              refine ⟨(a.eval x).cells.toList ++ vals, ?_, ?_, ?_, ?_, ?_⟩
              · simp only [List.map_cons, Instr.fill]
                rw [if_neg (by simp [hcl]; omega), q1, hfold]
                congr 2
                have : (i + 1) * z = i * z + z := by rw [Nat.add_mul, Nat.one_mul]
                rw [this, List.take_append_of_le_length (by simp; omega), List.take_of_length_le (by simp; omega), List.append_assoc]
              · simp only [List.length_append, q2, Array.length_toList, hcl, List.length_cons, Nat.add_mul, Nat.one_mul]; omega
              · intro y hy
                rcases List.mem_cons.1 hy with q | q
                · rw [q]; exact hrz
                · exact q3 y q
              · simp only [RepRows]
                refine ⟨RepRow.mono (Stable.refl w h) row _ _ row.length (fun j hj => ?_) (Nat.le_refl _) k1, RepRows.mono (Stable.refl w h) rows' _ _ _ (fun j hj => ?_) rfl q4⟩
                · rw [List.getElem?_append_left (by simp; omega)]
                · rw [List.getElem?_append_right (by simp; omega)]
                  congr 1
                  simp; omega
              · intro u hu
                rcases List.mem_append.1 hu with q | q
                · obtain ⟨j, hj⟩ := List.mem_iff_getElem?.1 q
                  have hjl : j < row.length := by
                    have := (List.getElem?_eq_some_iff.1 hj).1
                    simp at this; omega
                  obtain ⟨u', p1, p2⟩ := k1.get j row[j] (List.getElem?_eq_getElem hjl)
                  rw [hj] at p1; injection p1 with p1; subst p1
                  exact pd_one p2
                · exact q5 u q
            · cases e1
          · cases e1
        · cases e1
      · cases e1
    · cases e1
end Go.Proofs.Dm
