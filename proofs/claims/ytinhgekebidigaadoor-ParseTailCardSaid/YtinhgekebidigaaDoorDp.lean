/- Part of the proof: contracts of the functions, walked by the D-machine. No condition. -/
import Derived.Test.YtinhgekebidigaaDoorDl
set_option linter.unusedVariables false
set_option linter.unusedSimpArgs false
namespace Go.Proofs.Dm
open Go Go.RowKit

theorem Wks.len : ∀ {a b : List DV}, Wks a b → a.length = b.length
  | _, _, .nil => rfl
  | _, _, .cons _ ks => by simp [ks.len]
theorem Gh.weakBox {k0 : Nat} {s : St} (id : Nat) (b b' : List DV) (h1 : s.hp[id]? = some b) (hw : Wks b b') : Gh k0 s ⟨s.tm, s.hp.set id b'⟩ := fun C w0 h0 ow0 r0 n a w h ow ρ _ r => by
  refine ⟨h, ow, ρ, ⟨r.glob, r.fr, ?_, r.defers, r.size, r.tm, r.dom, r.pre⟩⟩
  refine ⟨by simpa using r.hr.len, fun i box bl q1 q2 hne => ?_, r.hr.lt, r.hr.hz⟩
  by_cases hi : i = id
  · subst hi
    have hlt : i < s.hp.length := (List.getElem?_eq_some_iff.1 h1).1
    simp only [List.getElem?_set_self hlt, Option.some.injEq] at q1
    subst q1
    have hl := hw.len
    obtain ⟨p1, p2, cs, T, p3, p4, p5⟩ := r.hr.box i b bl h1 q2 (by rintro rfl; simp at hl; exact hne (List.eq_nil_of_length_eq_zero hl.symm))
    refine ⟨p1, p2, cs, T, p3, by omega, ?_⟩
    rw [← hl]
    exact RepDs.wk hw p5
  · simp only [List.getElem?_set_ne (fun h => hi h.symm)] at q1
    exact r.hr.box i box bl q1 q2 hne
/-- A call's argument boxes may be weakened ahead of it. -/
theorem Wks.refl' : ∀ (ds : List DV), Wks ds ds := Wks.same
/-- Of a box only the beginning is told. -/
theorem Gh.cutBox {k0 : Nat} {s : St} (id m : Nat) (b : List DV) (h1 : s.hp[id]? = some b) : Gh k0 s ⟨s.tm, s.hp.set id (b.take m)⟩ := fun C w0 h0 ow0 r0 n a w h ow ρ _ r => by
  refine ⟨h, ow, ρ, ⟨r.glob, r.fr, ?_, r.defers, r.size, r.tm, r.dom, r.pre⟩⟩
  refine ⟨by simpa using r.hr.len, fun i box bl q1 q2 hne => ?_, r.hr.lt, r.hr.hz⟩
  by_cases hi : i = id
  · subst hi
    have hlt : i < s.hp.length := (List.getElem?_eq_some_iff.1 h1).1
    simp only [List.getElem?_set_self hlt, Option.some.injEq] at q1
    subst q1
    obtain ⟨p1, p2, cs, T, p3, p4, p5⟩ := r.hr.box i b bl h1 q2 (by rintro rfl; simp at hne)
    refine ⟨p1, p2, cs, T, p3, by simp; omega, ?_⟩
    have hlen := p5.length
    refine RepDs.of_get (by simp at hlen ⊢; omega) fun j d v hd hv => ?_
    rw [List.getElem?_take] at hd
    rw [List.getElem?_take] at hv
    have hj : j < m := by
      split at hd
      · assumption
      · cases hd
    rw [if_pos hj] at hd
    have hjl : j < b.length := (List.getElem?_eq_some_iff.1 hd).1
    have hj2 : j < (b.take m).length := by simp; omega
    rw [if_pos hj2] at hv
    obtain ⟨v', g1, g2⟩ := p5.get j d hd
    rw [List.getElem?_take, if_pos hjl, hv] at g1
    cases g1
    exact g2
  · simp only [List.getElem?_set_ne (fun h => hi h.symm)] at q1
    exact r.hr.box i box bl q1 q2 hne
/-- An array of no element is a slice of none. -/
theorem Gh.arrNil {k0 : Nat} {s : St} (t : Tmp) (id off z : Nat) (h1 : s.tm t = .arr id off z 0) : Gh k0 s (s.put (some t) (.p (.sl z []))) := fun C w0 h0 ow0 r0 n a w h ow ρ _ r => by
  refine ⟨h, ow, ρ, ⟨r.glob, r.fr, r.hr, r.defers, r.size, fun i => ?_, fun i hi => ?_, r.pre⟩⟩
  · simp only [St.put]
    split
    · rename_i e; subst e
      have hr := r.tm i
      rw [h1] at hr
      simp only [RepD, Rep] at hr ⊢
      obtain ⟨b, hb, ⟨_, a, c, q1, q2⟩ | ⟨cap, cs, T, f, q1, q2, q3, q4⟩⟩ := hr
      · exact .inl ⟨trivial, a, c, q1, q2⟩
      · exact .inl ⟨trivial, _, cap, q2, fun q => by cases q⟩
    · exact r.tm i
  · simp only [St.put]
    split
    · rename_i e; subst e
      have := r.dom i hi
      rw [h1] at this; cases this
    · exact r.dom i hi
/-- Several ways meet. -/
theorem join {J K : St → Prop} {P : Prop} (main : (∀ st, J st → K st) → P) (key : ∀ st, J st → K st) : P := main key
end Go.Proofs.Dm

set_option linter.unusedVariables false
set_option linter.unusedSimpArgs false
namespace Go.Proofs.Dm
open Go Go.RowKit

/-- An array that a box's cell names is shut: its row is no box any more; the slice is shared freely. -/
theorem Gh.freezeCell {k0 : Nat} {s : St} (j k id z n : Nat) (bx : List DV) (xs : List (List PD)) (h0 : s.hp[j]? = some bx) (h1 : bx[k]? = some (.arr id 0 z n)) (hji : j ≠ id) (h2 : s.hp[id]? = some (flatP xs)) (h0z : 0 < z) (h3 : ∀ x ∈ xs, x.length = z) (h4 : n = xs.length) :
    Gh k0 s ⟨s.tm, (s.hp.set j (bx.set k (.p (.sl z xs)))).set id []⟩ := by
  intro C w0 m0 ow0 r0 nt a w h ow ρ _ r
  have hkl : k < bx.length := (List.getElem?_eq_some_iff.1 h1).1
  have hjl : j < s.hp.length := (List.getElem?_eq_some_iff.1 h0).1
  have hjb : ρ[j]? = some ρ[j]! := by
    have : j < ρ.length := by rw [← r.hr.len]; exact hjl
    rw [List.getElem?_eq_getElem this, getElem!_pos ρ j this]
  have hbne : bx ≠ [] := by rintro rfl; simp at hkl
  obtain ⟨pj1, pj2, csj, Tj, hhj, hlj, hrj⟩ := r.hr.box j bx _ h0 hjb hbne
  have hvj : ∃ vj, (csj.toList.take bx.length)[k]? = some vj ∧ RepD w h ρ (.arr id 0 z n) (fun g p => ow g = some (.cell (j :: (0 + k) :: p))) vj := hrj.get k _ h1
  obtain ⟨vj, hvj1, hvj2⟩ := hvj
  simp only [RepD] at hvj2
  obtain ⟨b, hρ, hv⟩ := hvj2
  -- the boxes, whatever the cell says now
  have boxes : ∀ (h' : Mark) (ow' : Own), (∀ i b', i ≠ id → ρ[i]? = some b' → ow b' = some (.box i) → ow' b' = some (.box i) ∧ h' b' = h b') → (∀ i q p, i ≠ id → ow q = some (.cell (i :: p)) → h' q = h q ∧ ow' q = some (.cell (i :: p))) → Stable w h w h' → (∀ g, ow' g ≠ none → ow g ≠ none) → (∀ b, w.heap.size ≤ b → h' b = 0) →
      Rep w h' (.sl z xs) vj → HR w h' ρ ow' ((s.hp.set j (bx.set k (.p (.sl z xs)))).set id []) := by
    intro h' ow' q1 q2 hst q3 q4 hrep
    refine ⟨by simp [r.hr.len], fun i bx' b' g1 g2 hne => ?_, fun g hg => r.hr.lt g (q3 g hg), q4⟩
    have hid : i ≠ id := by
      intro e; subst e
      rw [List.getElem?_set_self (by simpa using (List.getElem?_eq_some_iff.1 h2).1)] at g1
      injection g1 with g1; exact hne g1.symm
    rw [List.getElem?_set_ne (fun e => hid e.symm)] at g1
    by_cases hij : i = j
    · subst hij
      rw [List.getElem?_set_self hjl] at g1
      injection g1 with g1; subst g1
      rw [hjb] at g2; injection g2 with g2; subst g2
      obtain ⟨k1, k2⟩ := q1 i _ hid hjb pj1
      refine ⟨k1, by rw [k2]; exact pj2, csj, Tj, hhj, by simpa using hlj, ?_⟩
      have hstep := RepDs.step hst (fun _ _ h => h) bx _ (fun g p => ow' g = some (.cell (i :: p))) 0 _ (fun q p ho => ⟨rfl, (q2 i q p hid ho).1, (q2 i q p hid ho).2⟩) hrj
      have hlen := hstep.length
      refine RepDs.of_get (by simpa using hlen) fun m d v hd hvv => ?_
      rw [List.length_set] at hvv
      by_cases hmk : m = k
      · subst hmk
        rw [List.getElem?_set_self hkl] at hd
        injection hd with hd; subst hd
        rw [hvj1] at hvv; injection hvv with hvv; subst hvv
        simp only [RepD]; exact hrep
      · rw [List.getElem?_set_ne (fun e => hmk e.symm)] at hd
        obtain ⟨v', e1, e2⟩ := hstep.get m d hd
        rw [e1] at hvv; injection hvv with hvv; subst hvv
        exact e2
    · rw [List.getElem?_set_ne (fun e => hij e.symm)] at g1
      obtain ⟨p1, p2, cs, T, hh, hl, hrr⟩ := r.hr.box i bx' b' g1 g2 hne
      obtain ⟨k1, k2⟩ := q1 i b' hid g2 p1
      exact ⟨k1, by rw [k2]; exact p2, cs, T, hh, hl, RepDs.step hst (fun _ _ h => h) bx' _ _ 0 _ (fun q p ho => ⟨rfl, (q2 i q p hid ho).1, (q2 i q p hid ho).2⟩) hrr⟩
  by_cases hx : xs = []
  · subst hx
    refine ⟨h, ow, ρ, r.glob, r.fr, boxes h ow (fun i b' _ _ q => ⟨q, rfl⟩) (fun i q p _ ho => ⟨rfl, ho⟩) (Stable.refl w h) (fun g hg => hg) r.hr.hz ?_, r.defers, r.size, r.tm, r.dom, r.pre⟩
    simp only [Rep]
    left
    refine ⟨trivial, ?_⟩
    rcases hv with ⟨_, a', c, q1, q2⟩ | ⟨cap, cs, T, f, q1, q2, _⟩
    · exact ⟨a', c, q1, q2⟩
    · subst h4; exact ⟨some ⟨b, 0, none⟩, cap, q2, by simp⟩
  · have hxl : 0 < xs.length := List.length_pos_iff.2 hx
    rcases hv with ⟨q, _⟩ | ⟨cap, cs0, T0, f0, q1, q2, q3, q4⟩
    · omega
    have hne : flatP xs ≠ [] := fun e => by
      have := flatP_len h3
      rw [e, List.length_nil] at this
      have := Nat.mul_pos hxl h0z
      omega
    obtain ⟨p1, p2, cs, T, hh, hl, hrr⟩ := r.hr.box id _ b h2 hρ hne
    have hbl := flatP_len h3
    let h' : Mark := fun q => if q = b then xs.length * z else h q
    let ow' : Own := fun q => if q = b then none else ow q
    have hst : Stable w h w h' := ⟨fun q => by show h q ≤ if q = b then _ else _; split
                                               · rename_i e; rw [e, p2]; exact Nat.zero_le _
                                               · exact Nat.le_refl _, fun _ _ _ => rfl, fun b cs T f q => ⟨cs, T, f, q, rfl⟩⟩
    have hnb : ∀ q pos, ow q = some pos → pos ≠ .box id → q ≠ b := fun q pos ho hp e => by
      rw [e, p1] at ho; injection ho with ho; exact hp ho.symm
    refine ⟨h', ow', ρ, ⟨r.glob.nb, fun q hq => ⟨(r.glob.eq q hq).1, ?_⟩⟩, ⟨r.fr.st.trans hst, r.fr.size, r.fr.os, r.fr.tape, r.fr.output, fun q hq ho => ?_⟩,
      boxes h' ow' (fun i b' hi _ q => ?_) (fun i q p hi ho => ?_) hst (fun g hg => ?_) (fun q hq => ?_) ?_, r.defers, r.size, fun i => ?_, r.dom, r.pre⟩
    · show (if q = b then none else ow q) = none
      split
      · rfl
      · exact (r.glob.eq q hq).2
    · obtain ⟨e1, e2, e3⟩ := r.fr.keep q hq ho
      have hqb : q ≠ b := fun e => by rw [e, p1] at e3; cases e3
      exact ⟨e1, by show (if q = b then _ else _) = _; rw [if_neg hqb]; exact e2, by show (if q = b then _ else _) = _; rw [if_neg hqb]; exact e3⟩
    · have hb' : b' ≠ b := hnb b' _ q (fun e => by injection e with e; exact hi e)
      exact ⟨by show (if b' = b then _ else _) = _; rw [if_neg hb']; exact q, by show (if b' = b then _ else _) = _; rw [if_neg hb']⟩
    · have hb' : q ≠ b := hnb q _ ho (by simp)
      exact ⟨by show (if q = b then _ else _) = _; rw [if_neg hb'], by show (if q = b then _ else _) = _; rw [if_neg hb']; exact ho⟩
    · by_cases e : g = b
      · rw [e, p1]; simp
      · have : ow' g = ow g := by show (if g = b then _ else _) = _; rw [if_neg e]
        rw [this] at hg; exact hg
    · have hblt := r.hr.lt b (by rw [p1]; simp)
      have : q ≠ b := by omega
      show (if q = b then _ else _) = 0
      rw [if_neg this]; exact r.hr.hz q hq
    · simp only [Rep]
      right
      refine ⟨b, 0, cap, by rw [q2, h4], by omega, by show _ ≤ (if b = b then _ else _); rw [if_pos rfl]; omega, h3, ?_⟩
      refine RepRows.mono hst xs _ _ (xs.length * z) (fun m hm => ?_) (rowsLen xs z h3) (flatP_rows hrr)
      rw [List.getElem?_take, if_pos (by omega), Array.getElem?_toList]
      simp only [Nat.zero_add, World.cell?, hh]; rfl
    · refine RepD.step hst (fun _ _ h => h) _ _ _ _ (fun q p ho => ?_) (r.tm i)
      have hb' : q ≠ b := hnb q _ ho (by simp)
      exact ⟨rfl, by show (if q = b then _ else _) = _; rw [if_neg hb'], by show (if q = b then _ else _) = _; rw [if_neg hb']; exact ho⟩
end Go.Proofs.Dm
