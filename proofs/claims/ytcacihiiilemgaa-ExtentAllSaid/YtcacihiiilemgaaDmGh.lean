/- The D-machine, part Gh: steps of the state alone. -/
import Derived.Test.YtcacihiiilemgaaDmS
set_option linter.unusedVariables false
set_option linter.unusedSimpArgs false
namespace Go.Proofs.Dm
open Go Go.RowKit

/-- Whoever stands as s says stands as s' says. -/
def Gh (k0 : Nat) (s s' : St) : Prop :=
  ∀ (C : Ctx) (w0 : World) (h0 : Mark) (ow0 : Own) (r0 : List Nat) (n : Nat) (a : Act) (w : World) (h : Mark) (ow : Own) (ρ : List Nat), r0.length ≤ k0 → Rel C w0 h0 ow0 r0 n s a w h ow ρ →
    ∃ h' ow' ρ', Rel C w0 h0 ow0 r0 n s' a w h' ow' ρ'
theorem Gh.refl (k0 : Nat) (s : St) : Gh k0 s s := fun _ _ _ _ _ _ _ _ h ow ρ _ r => ⟨h, ow, ρ, r⟩
theorem Gh.trans {k0 : Nat} {s s1 s2 : St} (a : Gh k0 s s1) (b : Gh k0 s1 s2) : Gh k0 s s2 := fun C w0 h0 ow0 r0 n ac w h ow ρ hk r => by
  obtain ⟨h1, ow1, ρ1, r1⟩ := a C w0 h0 ow0 r0 n ac w h ow ρ hk r
  exact b C w0 h0 ow0 r0 n ac w h1 ow1 ρ1 hk r1
theorem Wk.un_eq {d : DV} (k : Wk .un d) : d = .un := by cases k <;> rfl
theorem Gh.weakAt {k0 : Nat} {s : St} (t : Tmp) (d : DV) (hw : Wk (s.tm t) d) : Gh k0 s (s.put (some t) d) := fun C w0 h0 ow0 r0 n a w h ow ρ _ r =>
  ⟨h, ow, ρ, r.weak _ rfl (fun i => by
    simp only [St.put]
    split
    · rename_i e; subst e; exact hw
    · exact .refl _) (fun i hi => by
    simp only [St.put]
    split
    · rename_i e; subst e
      rw [r.dom i hi] at hw
      exact hw.un_eq
    · exact r.dom i hi)⟩

theorem flatP_rows {w h ρ O} : ∀ {xs : List (List PD)} {vs : List Value} {k : Nat}, RepDs w h ρ (flatP xs) O k vs → RepRows w h xs (fun j => vs[j]?)
  | [], vs, k, r => by simp only [RepRows]
  | x :: xs, vs, k, r => by
    rw [flatP_cons] at r
    have hl := r.length
    simp only [RepRows]
    constructor
    · refine RepRow.of_get fun j c hc => ?_
      have hj := (List.getElem?_eq_some_iff.1 hc).1
      obtain ⟨v, q1, q2⟩ := r.get j (.p c) (by rw [List.getElem?_append_left (by simpa using hj), List.getElem?_map, hc]; rfl)
      simp only [RepD] at q2
      exact ⟨v, q1, q2⟩
    · have : RepDs w h ρ (flatP xs) O (k + x.length) (vs.drop x.length) := by
        simp at hl
        refine RepDs.of_get (by simp; omega) fun i d v hd hv => ?_
        obtain ⟨v', q1, q2⟩ := r.get (x.length + i) d (by rw [List.getElem?_append_right (by simp)]; simpa using hd)
        rw [List.getElem?_drop, q1] at hv; injection hv with hv; subst hv
        rw [Nat.add_assoc]; exact q2
      refine RepRows.mono (Stable.refl w h) xs _ _ _ (fun j hj => ?_) rfl (flatP_rows this)
      rw [List.getElem?_drop]

/-- An array is shut: its box is no box any more; the slice is shared freely. -/
theorem Gh.freeze {k0 : Nat} {s : St} (t : Tmp) (id z n : Nat) (xs : List (List PD)) (h1 : s.tm t = .arr id 0 z n) (h2 : s.hp[id]? = some (flatP xs)) (h0z : 0 < z) (h3 : ∀ x ∈ xs, x.length = z) (h4 : n = xs.length) :
    Gh k0 s { s.put (some t) (.p (.sl z xs)) with hp := s.hp.set id [] } := by
  intro C w0 m0 ow0 r0 nt a w h ow ρ _ r
  have ht := r.tm t
  rw [h1] at ht
  simp only [RepD] at ht
  obtain ⟨b, hρ, hv⟩ := ht
  have hdom : ∀ i, nt ≤ i → (({ s.put (some t) (.p (.sl z xs)) with hp := s.hp.set id [] } : St)).tm i = .un := fun i hi => by
    simp only [St.put]
    split
    · rename_i e; subst e; rw [r.dom i hi] at h1; cases h1
    · exact r.dom i hi
  have killed : ∀ (h' : Mark) (ow' : Own), (∀ i b', i ≠ id → ρ[i]? = some b' → ow b' = some (.box i) → ow' b' = some (.box i) ∧ h' b' = h b') → (∀ i q p, i ≠ id → ow q = some (.cell (i :: p)) → h' q = h q ∧ ow' q = some (.cell (i :: p))) → Stable w h w h' → (∀ g, ow' g ≠ none → ow g ≠ none) → (∀ b, w.heap.size ≤ b → h' b = 0) →
      HR w h' ρ ow' (s.hp.set id []) := by
    intro h' ow' q1 q2 hst q3 q4
    refine ⟨by simp [r.hr.len], fun i bx b' g1 g2 hne => ?_, fun g hg => r.hr.lt g (q3 g hg), q4⟩
    have hid : i ≠ id := by
      intro e; subst e
      rw [List.getElem?_set_self (List.getElem?_eq_some_iff.1 h2).1] at g1
      injection g1 with g1; exact hne g1.symm
    rw [List.getElem?_set_ne (fun e => hid e.symm)] at g1
    obtain ⟨p1, p2, cs, T, hh, hl, hrr⟩ := r.hr.box i bx b' g1 g2 hne
    obtain ⟨k1, k2⟩ := q1 i b' hid g2 p1
    exact ⟨k1, by rw [k2]; exact p2, cs, T, hh, hl, RepDs.step hst (fun _ _ h => h) bx _ _ 0 _ (fun q p ho => ⟨rfl, (q2 i q p hid ho).1, (q2 i q p hid ho).2⟩) hrr⟩
  by_cases hx : xs = []
  · -- nothing in it
    subst hx
    refine ⟨h, ow, ρ, r.glob, r.fr, killed h ow (fun i b' _ _ q => ⟨q, rfl⟩) (fun i q p _ ho => ⟨rfl, ho⟩) (Stable.refl w h) (fun g hg => hg) r.hr.hz, r.defers, r.size, fun i => ?_, hdom, r.pre⟩
    simp only [St.put]
    by_cases hi : i = t
    · rw [if_pos hi]
      simp only [RepD, Rep]
      subst hi
      left
      refine ⟨trivial, ?_⟩
      rcases hv with ⟨_, a', c, q1, q2⟩ | ⟨cap, cs, T, f, q1, q2, _⟩
      · exact ⟨a', c, q1, q2⟩
      · subst h4; exact ⟨some ⟨b, 0, none⟩, cap, q2, by simp⟩
    · rw [if_neg hi]; exact r.tm i
  · have hxl : 0 < xs.length := List.length_pos_iff.2 hx
    rcases hv with ⟨q, _⟩ | ⟨cap, cs0, T0, f0, q1, q2, q3, q4⟩
    · omega
    have hne : flatP xs ≠ [] := fun e => by
      have := flatP_len h3
      rw [e, List.length_nil] at this
      have := Nat.mul_pos hxl h0z
      omega
    obtain ⟨p1, p2, cs, T, hh, hl, hrr⟩ := r.hr.box id _ b h2 hρ hne
    have hbl := flatP_len h3
    have hblt := r.hr.lt b (by rw [p1]; simp)
    let h' : Mark := fun q => if q = b then xs.length * z else h q
    let ow' : Own := fun q => if q = b then none else ow q
    have hst : Stable w h w h' := ⟨fun q => by show h q ≤ if q = b then _ else _; split
                                               · rename_i e; rw [e, p2]; exact Nat.zero_le _
                                               · exact Nat.le_refl _, fun _ _ _ => rfl, fun b cs T f q => ⟨cs, T, f, q, rfl⟩⟩
    have hnb : ∀ q pos, ow q = some pos → pos ≠ .box id → q ≠ b := fun q pos ho hp e => by
      rw [e, p1] at ho; injection ho with ho; exact hp ho.symm
    refine ⟨h', ow', ρ, ⟨r.glob.nb, fun q hq => ⟨(r.glob.eq q hq).1, ?_⟩⟩, ⟨r.fr.st.trans hst, r.fr.size, r.fr.os, r.fr.tape, r.fr.output, fun q hq ho => ?_⟩,
      killed h' ow' (fun i b' hi _ q => ?_) (fun i q p hi ho => ?_) hst (fun g hg => ?_) (fun q hq => ?_), r.defers, r.size, fun i => ?_, hdom, r.pre⟩
    · show (if q = b then none else ow q) = none
      split
      · rfl
      · exact (r.glob.eq q hq).2
    · obtain ⟨e1, e2, e3⟩ := r.fr.keep q hq ho
      have hqb : q ≠ b := fun e => by rw [e, p1] at e3; cases e3
      exact ⟨e1, by show (if q = b then _ else _) = _; rw [if_neg hqb]; exact e2, by show (if q = b then _ else _) = _; rw [if_neg hqb]; exact e3⟩
    · have hb' : b' ≠ b := hnb b' _ q (fun e => by injection e with e; exact hi e)
      exact ⟨by show (if b' = b then _ else _) = _; rw [if_neg hb']; exact q, by show (if b' = b then _ else _) = _; rw [if_neg hb']⟩
    · have hb' : q ≠ b := hnb q _ ho (by simp)
      exact ⟨by show (if q = b then _ else _) = _; rw [if_neg hb'], by show (if q = b then _ else _) = _; rw [if_neg hb']; exact ho⟩
    · by_cases e : g = b
      · rw [e, p1]; simp
      · have : ow' g = ow g := by show (if g = b then _ else _) = _; rw [if_neg e]
        rw [this] at hg; exact hg
    · have : q ≠ b := by omega
      show (if q = b then _ else _) = 0
      rw [if_neg this]; exact r.hr.hz q hq
    · simp only [St.put]
      by_cases hi : i = t
      · rw [if_pos hi]
        subst hi
        simp only [RepD, Rep]
        right
        refine ⟨b, 0, cap, by rw [q2, h4], by omega, by show _ ≤ (if b = b then _ else _); rw [if_pos rfl]; omega, h3, ?_⟩
        refine RepRows.mono hst xs _ _ (xs.length * z) (fun j hj => ?_) (rowsLen xs z h3) (flatP_rows hrr)
        rw [List.getElem?_take, if_pos (by omega), Array.getElem?_toList]
        simp only [Nat.zero_add, World.cell?, hh]; rfl
      · rw [if_neg hi]
        refine RepD.step hst (fun _ _ h => h) _ _ _ _ (fun q p ho => ?_) (r.tm i)
        have hb' : q ≠ b := hnb q _ ho (by simp)
        exact ⟨rfl, by show (if q = b then _ else _) = _; rw [if_neg hb'], by show (if q = b then _ else _) = _; rw [if_neg hb']; exact ho⟩

/-! ### boxes named anew, or forgotten -/
def renD (js : List Nat) (d : DV) : DV := if (refsD d).all (fun i => js.contains i) then mapRef (idxIn js) d else .un
def renSt (js : List Nat) (hp' : List (List DV)) (s : St) : St := ⟨fun i => renD js (s.tm i), hp'⟩
def renP (js : List Nat) : Pos → Pos
  | .box i => if js.contains i then .box (idxIn js i) else .res []
  | .cell (i :: p) => if js.contains i then .cell (idxIn js i :: p) else .res []
  | .cell [] => .res []
  | x => x
theorem Gh.ren {k0 : Nat} {s : St} (js : List Nat) (sub : List (List DV)) (hsub : subHp s.hp js = some sub) (hnd : js.Nodup) (hk : js.take k0 = List.range k0) (hcl : (sub.all fun b => (refsDs b).all fun i => js.contains i) = true) :
    Gh k0 s (renSt js (sub.map (mapRefs (idxIn js))) s) := by
  intro C w0 m0 ow0 r0 nt a w h ow ρ hr0 r
  obtain ⟨hsl, hsubspec⟩ := subHp_spec hsub
  have hidlt : ∀ i ∈ js, i < s.hp.length := by
    intro i hi
    obtain ⟨j, hj⟩ := List.mem_iff_getElem?.1 hi
    obtain ⟨b, q1, _⟩ := hsubspec j i hj
    exact (List.getElem?_eq_some_iff.1 q1).1
  have hρget : ∀ i ∈ js, ρ[i]? = some (ρ.getD i 0) := by
    intro i hi
    have hlt : i < ρ.length := by rw [← r.hr.len]; exact hidlt i hi
    rw [List.getElem?_eq_getElem hlt, List.getD_eq_getElem?_getD, List.getElem?_eq_getElem hlt]; rfl
  let ρ' : List Nat := js.map fun i => ρ.getD i 0
  let ow' : Own := fun g => (ow g).map (renP js)
  have hρ' : ∀ i ∈ js, ρ'[idxIn js i]? = ρ[i]? := by
    intro i hi
    simp only [ρ', List.getElem?_map, idx_get hi, Option.map_some, hρget i hi]
  have hB : HR w h ρ' ow' (sub.map (mapRefs (idxIn js))) := by
    refine ⟨by simp [ρ', hsl], fun j bx b g1 g2 hne => ?_, fun g hg => r.hr.lt g (fun e => hg (by simp [ow', e])), r.hr.hz⟩
    simp only [ρ', List.getElem?_map] at g1 g2
    obtain ⟨i, hi1, hi2⟩ := Option.map_eq_some_iff.1 g2
    obtain ⟨bx0, hb1, hb2⟩ := hsubspec j i hi1
    have hi : i ∈ js := List.mem_of_getElem? hi1
    rw [hb2] at g1
    simp only [Option.map_some, Option.some.injEq] at g1
    subst g1
    have hρi : ρ[i]? = some b := by rw [hρget i hi, hi2]
    obtain ⟨p1, p2, cs, T, hh, hl0, hrr⟩ := r.hr.box i bx0 b hb1 hρi (fun e => hne (by rw [e]; rfl))
    have hj : idxIn js i = j := idx_of_get hnd hi1
    refine ⟨by simp [ow', p1, renP, hi, hj], p2, cs, T, hh, by rw [mapRefs_len]; exact hl0, ?_⟩
    rw [mapRefs_len]
    refine RepDs.mapRefs _ _ _ _ _ (fun i' hi' => hρ' i' ?_) (hrr.rename fun g p ho => by simp [ow', ho, renP, hi, hj])
    have hc := List.all_eq_true.1 hcl bx0 (List.mem_of_getElem? hb2)
    have := List.all_eq_true.1 hc i' hi'
    simpa using this
  refine ⟨h, ow', ρ', ⟨r.glob.nb, fun b hb => ⟨(r.glob.eq b hb).1, by simp [ow', (r.glob.eq b hb).2]⟩⟩, ⟨r.fr.st, r.fr.size, r.fr.os, r.fr.tape, r.fr.output, fun b hb ho => ?_⟩, hB, r.defers, r.size, fun i => ?_, fun i hi => ?_, ?_⟩
  · obtain ⟨e1, e2, e3⟩ := r.fr.keep b hb ho
    exact ⟨e1, e2, by simp [ow', e3]⟩
  · show RepD w h ρ' (renD js (s.tm i)) _ _
    unfold renD
    split
    · rename_i hall
      refine RepD.mapRef _ _ _ _ (fun i' hi' => hρ' i' ?_) ((r.tm i).rename fun g p ho => by simp [ow', ho, renP])
      have := List.all_eq_true.1 hall i' hi'
      simpa using this
    · simp only [RepD]
  · show renD js (s.tm i) = .un
    rw [r.dom i hi]; simp [renD, refsD, mapRef]
  · obtain ⟨ex, hex⟩ := r.pre
    have hlen : r0.length ≤ js.length := by
      have := congrArg List.length hk
      simp at this; omega
    refine ⟨ρ'.drop r0.length, ?_⟩
    rw [← List.take_append_drop r0.length ρ']
    congr 1
    · apply List.ext_getElem?
      intro i
      by_cases hi : i < r0.length
      · rw [List.getElem?_take, if_pos hi]
        have hji : js[i]? = some i := by
          have h1 : (js.take k0)[i]? = (List.range k0)[i]? := by rw [hk]
          rw [List.getElem?_take, if_pos (by omega), List.getElem?_range (by omega)] at h1
          exact h1
        have him : i ∈ js := List.mem_of_getElem? hji
        simp only [ρ', List.getElem?_map, hji, Option.map_some]
        rw [← hρget i him, hex, List.getElem?_append_left hi]
      · rw [List.getElem?_take, if_neg hi, List.getElem?_eq_none (by omega)]
    · simp
end Go.Proofs.Dm
