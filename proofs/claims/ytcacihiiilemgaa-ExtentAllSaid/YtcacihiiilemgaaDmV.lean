/- The D-machine, part V: arrays that are boxes: make, copy, append. -/
import Derived.Test.YtcacihiiilemgaaDmI
import Derived.Laws.OwnMore
set_option linter.unusedVariables false
set_option linter.unusedSimpArgs false
namespace Go.Proofs.Dm
open Go Go.RowKit

def flatP (xs : List (List PD)) : List DV := xs.flatMap fun r => r.map .p
theorem flatP_cons (x : List PD) (xs : List (List PD)) : flatP (x :: xs) = x.map .p ++ flatP xs := rfl
theorem flatP_rep {w h ρ} : ∀ {xs : List (List PD)} {vs : List Value}, (xs.map List.length).sum = vs.length → RepRows w h xs (fun j => vs[j]?) → ∀ O k, RepDs w h ρ (flatP xs) O k vs
  | [], vs, hl, r, O, k => by
    have : vs = [] := List.eq_nil_of_length_eq_zero (by simpa using hl.symm)
    subst this; simp [flatP, RepDs]
  | x :: xs, vs, hl, r, O, k => by
    simp only [List.map_cons, List.sum_cons] at hl
    simp only [RepRows] at r
    have h1 : RepDs w h ρ (x.map DV.p) O k (vs.take x.length) := by
      refine RepDs.of_get (by simp; omega) fun i d v hd hv => ?_
      rw [List.getElem?_map] at hd
      obtain ⟨c, hc, rfl⟩ := Option.map_eq_some_iff.1 hd
      obtain ⟨u, q1, q2⟩ := r.1.get i c hc
      have hi := (List.getElem?_eq_some_iff.1 hc).1
      rw [List.getElem?_take, if_pos hi, q1] at hv
      injection hv with hv; subst hv
      simp only [RepD]; exact q2
    have h2 := flatP_rep (ρ := ρ) (xs := xs) (vs := vs.drop x.length) (by simp; omega) (RepRows.mono (Stable.refl w h) xs _ _ _ (fun j hj => by rw [List.getElem?_drop]) rfl r.2) O (k + x.length)
    rw [flatP_cons]
    have := RepDs.append h1 (by simpa using h2)
    rwa [List.take_append_drop] at this
theorem flatP_len : ∀ {xs : List (List PD)} {z : Nat}, (∀ x ∈ xs, x.length = z) → (flatP xs).length = xs.length * z
  | [], z, h => by simp [flatP]
  | x :: xs, z, h => by
    rw [flatP_cons, List.length_append, List.length_map, h x (by simp), flatP_len (fun y hy => h y (by simp [hy])), List.length_cons, Nat.add_mul, Nat.one_mul]; omega

def killB (hp : List (List DV)) : Option Nat → List (List DV)
  | none => hp
  | some i => hp.set i []

/-- A block is a new box, d its slice: it is new, or was owned by a slot, or was a box, which is dead now. -/
theorem Rel.arrived {C w0 h0 ow0 r0 n s a w h ow ρ} (r : Rel C w0 h0 ow0 r0 n s a w h ow ρ) (own? : Option Tmp) (old? : Option Nat) (d : Nat) (hd : d < n) (g : Nat) {w' : World} {cs : Array Value} {T : TypeId} {box : List DV} {z k : Nat} {v : Value}
    (hg : w.heap.size ≤ g ∨ (∃ ts, own? = some ts ∧ ow g = some (.tmp [ts])) ∨ ∃ id, old? = some id ∧ ow g = some (.box id))
    (hgn : ∀ b, b < w.heap.size → b ≠ g → w'.heap[b]? = w.heap[b]?) (hsize : w.heap.size ≤ w'.heap.size) (hgs : g < w'.heap.size) (hos : w'.os = w.os) (htape : w'.tape = w.tape) (hout : w'.output = w.output)
    (hold : ∀ id, old? = some id → id < s.hp.length)
    (ksz : ∀ (cs0 : Array Value) (T : TypeId) (f : Nat × Nat), w.heap[g]? = some (.cells cs0 T f) → cs0.size = cs.size)
    (hh : w'.heap[g]? = some (.cells cs T (0, 0))) (hl : box.length ≤ cs.size) (hb : ∀ O k, RepDs w h ρ box O k (cs.toList.take box.length)) (hmark : h g = 0)
    (hv : (k = 0 ∧ ∃ a c, v = .slice a 0 c ∧ (a = none → c = 0)) ∨ ∃ cap, k ≤ cap ∧ v = .slice (some ⟨g, 0, none⟩) k cap ∧ cap * z ≤ cs.size) :
    Rel C w0 h0 ow0 r0 n ({ (s.put own? .un).put (some d) (.arr s.hp.length 0 z k) with hp := killB s.hp old? ++ [box] }) (a.put (some d) v) w' h
      (fun b => if b = g then some (.box ρ.length) else ow b) (ρ ++ [g]) := by
  have hd' : d < a.tmps.size := by rw [r.size]; exact hd
  have hst : Stable w h w' h := ⟨fun _ => Nat.le_refl _, fun b i hi => by
    have hlt : b < w.heap.size := by
      rcases Nat.lt_or_ge b w.heap.size with q | q
      · exact q
      · rw [r.hr.hz b q] at hi; omega
    have hne : b ≠ g := fun e => by rw [e, hmark] at hi; omega
    simp only [World.cell?, hgn b hlt hne], fun b cs0 T0 f0 q => by
      by_cases hbg : b = g
      · subst hbg; exact ⟨cs, T, _, hh, (ksz cs0 T0 f0 q).symm⟩
      · exact ⟨cs0, T0, f0, by rw [hgn b (Array.getElem?_eq_some_iff.1 q).1 hbg]; exact q, rfl⟩⟩
  have hgow : ∀ q, ow g = some q → (∃ ts, own? = some ts ∧ q = .tmp [ts]) ∨ ∃ id, old? = some id ∧ q = .box id := by
    intro q hq
    rcases hg with e | ⟨ts, e1, e2⟩ | ⟨id, e1, e2⟩
    · exact absurd (r.hr.lt g (by rw [hq]; simp)) (Nat.not_lt_of_le e)
    · rw [hq] at e2; injection e2 with e2; exact .inl ⟨ts, e1, e2⟩
    · rw [hq] at e2; injection e2 with e2; exact .inr ⟨id, e1, e2⟩
  have hO : ∀ (P : Nat → List Nat → Prop) (Q : Nat → List Nat → Prop), (∀ q p, P q p → ow q ≠ none ∧ q ≠ g) → (∀ q p, P q p → Q q p) →
      ∀ q p, P q p → w'.heap[q]? = w.heap[q]? ∧ h q = h q ∧ (q ≠ g ∧ Q q p) := by
    intro P Q h1 h2 q p hp
    obtain ⟨k1, k2⟩ := h1 q p hp
    exact ⟨hgn q (r.hr.lt q k1) k2, rfl, k2, h2 q p hp⟩
  have hρ : ∀ (i b : Nat), ρ[i]? = some b → (ρ ++ [g])[i]? = some b := fun i b hi => by
    rw [List.getElem?_append_left (List.getElem?_eq_some_iff.1 hi).1]; exact hi
  have hfr : Fr w h ow w' h (fun b => if b = g then some (.box ρ.length) else ow b) :=
    ⟨hst, hsize, hos, htape, hout, fun b hb ho => by
      have hne : b ≠ g := by
        intro e; subst e
        rcases hg with e | ⟨ts, e1, e2⟩ | ⟨id, e1, e2⟩
        · omega
        · rw [ho] at e2; cases e2
        · rw [ho] at e2; cases e2
      exact ⟨hgn b hb hne, rfl, by rw [if_neg hne]; exact ho⟩⟩
  have hcellne : ∀ q i p, ow q = some (.cell (i :: p)) → q ≠ g := by
    intro q i p hq e
    subst e
    rcases hgow _ hq with ⟨ts, _, e⟩ | ⟨id, _, e⟩ <;> cases e
  refine ⟨r.glob.fr hfr, r.fr.trans hfr, ⟨?_, fun id bx b h1 h2 hne => ?_, fun q hq => ?_, fun b hb => r.hr.hz b (by omega)⟩, r.defers, by simpa [Act.put] using r.size, fun i => ?_, fun i hi => ?_, by obtain ⟨ex, hex⟩ := r.pre; exact ⟨ex ++ [g], by rw [hex, List.append_assoc]⟩⟩
  · cases old? <;> simp [killB, r.hr.len]
  · have hkl : (killB s.hp old?).length = s.hp.length := by cases old? <;> simp [killB]
    by_cases hid : id < s.hp.length
    · rw [List.getElem?_append_left (by rw [hkl]; exact hid)] at h1
      rw [List.getElem?_append_left (by rw [← r.hr.len]; exact hid)] at h2
      have hnold : old? ≠ some id := by
        intro e
        subst e
        simp only [killB] at h1
        rw [List.getElem?_set_self hid] at h1
        injection h1 with h1; exact hne h1.symm
      have h1' : s.hp[id]? = some bx := by
        cases old? with
        | none => exact h1
        | some j =>
          simp only [killB] at h1
          rw [List.getElem?_set_ne (fun e => hnold (by rw [e]))] at h1
          exact h1
      obtain ⟨p, q, cs', T', hh', hl', hrr⟩ := r.hr.box id bx b h1' h2 hne
      have hbne : b ≠ g := by
        intro e; subst e
        rcases hgow _ p with ⟨ts, _, e⟩ | ⟨id', e1, e⟩
        · cases e
        · injection e with e; subst e; exact hnold e1
      have hblt := r.hr.lt b (by rw [p]; simp)
      refine ⟨by rw [if_neg hbne]; exact p, q, cs', T', by rw [hgn b hblt hbne]; exact hh', hl', ?_⟩
      refine RepDs.step hst hρ bx _ _ 0 _ (fun q p ho => ?_) hrr
      have := hO (fun q p => ow q = some (.cell (id :: p))) (fun q p => ow q = some (.cell (id :: p))) (fun q p ho => ⟨by rw [ho]; simp, hcellne q id p ho⟩) (fun _ _ h => h) q p ho
      exact ⟨this.1, this.2.1, by rw [if_neg this.2.2.1]; exact this.2.2.2⟩
    · have hid' : id = (killB s.hp old?).length := by
        have := (List.getElem?_eq_some_iff.1 h1).1
        simp at this; omega
      subst hid'
      simp only [List.getElem?_concat_length, Option.some.injEq] at h1
      subst h1
      rw [hkl, r.hr.len] at h2
      simp only [List.getElem?_concat_length, Option.some.injEq] at h2
      subst h2
      refine ⟨by simp [hkl, r.hr.len], hmark, cs, T, hh, hl, ?_⟩
      exact RepDs.step hst hρ box (fun _ _ => False) _ 0 _ (fun q p hf => hf.elim) (hb _ 0)
  · by_cases hqg : q = g
    · subst hqg; exact hgs
    · rw [if_neg hqg] at hq
      exact Nat.lt_of_lt_of_le (r.hr.lt q hq) hsize
  · rw [getD_put a d _ i hd']
    have hset : ({ (s.put own? .un).put (some d) (.arr s.hp.length 0 z k) with hp := killB s.hp old? ++ [box] } : St).tm i = if i = d then .arr s.hp.length 0 z k else (s.put own? .un).tm i := by
      simp [St.put]
    rw [hset]
    by_cases hid : i = d
    · rw [if_pos hid, if_pos hid]
      simp only [RepD]
      refine ⟨g, by rw [r.hr.len]; simp, ?_⟩
      rcases hv with q | ⟨cap, q1, q2, q3⟩
      · exact .inl q
      · exact .inr ⟨cap, cs, T, _, q1, q2, hh, by omega⟩
    · rw [if_neg hid, if_neg hid]
      have main : (∀ ts, own? = some ts → i ≠ ts) → RepD w' h (ρ ++ [g]) (s.tm i) (fun q p => (if q = g then some (.box ρ.length) else ow q) = some (.tmp (i :: p))) (a.tmps.getD i undef) := by
        intro hne
        refine RepD.step hst hρ _ _ _ _ (fun q p ho => ?_) (r.tm i)
        have := hO (fun q p => ow q = some (.tmp (i :: p))) (fun q p => ow q = some (.tmp (i :: p))) (fun q p ho => ⟨by rw [ho]; simp, fun e => by
          subst e
          rcases hgow _ ho with ⟨ts, e1, e⟩ | ⟨id, _, e⟩
          · injection e with e; injection e with e e3; exact hne ts e1 e
          · cases e⟩) (fun _ _ h => h) q p ho
        exact ⟨this.1, this.2.1, by rw [if_neg this.2.2.1]; exact this.2.2.2⟩
      cases own? with
      | none => exact main (fun ts e => by cases e)
      | some ts =>
        simp only [St.put]
        by_cases hit : i = ts
        · rw [if_pos hit]; simp only [RepD]
        · rw [if_neg hit]; exact main (fun ts' e => by injection e with e; subst e; exact hit)
  · have hne : i ≠ d := fun e => by rw [e] at hi; exact absurd hi (Nat.not_le_of_gt hd)
    have hset : ({ (s.put own? .un).put (some d) (.arr s.hp.length 0 z k) with hp := killB s.hp old? ++ [box] } : St).tm i = (s.put own? .un).tm i := by
      simp only [St.put]; rw [if_neg hne]
    rw [hset]
    cases own? with
    | none => exact r.dom i hi
    | some ts =>
      simp only [St.put]
      split
      · rfl
      · exact r.dom i hi
end Go.Proofs.Dm
