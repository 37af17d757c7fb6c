/- Part of the proof: contracts of the functions, walked by the D-machine. No condition. -/
import Derived.Test.YtmlhdhpjcipcdaaGreatDoorDj
import Derived.Deep.LoopGhost
set_option linter.unusedVariables false
set_option linter.unusedSimpArgs false
namespace Go.Proofs.Dm
open Go Go.RowKit
def Gh (k0 : Nat) (s s' : St) : Prop :=
  ∀ (C : Ctx) (w0 : World) (h0 : Mark) (ow0 : Own) (r0 : List Nat) (n : Nat) (a : Act) (w : World) (h : Mark) (ow : Own) (ρ : List Nat), r0.length ≤ k0 → Rel C w0 h0 ow0 r0 n s a w h ow ρ →
    ∃ h' ow' ρ', Rel C w0 h0 ow0 r0 n s' a w h' ow' ρ'
theorem Gh.refl (k0 : Nat) (s : St) : Gh k0 s s := fun _ _ _ _ _ _ _ _ h ow ρ _ r => ⟨h, ow, ρ, r⟩
theorem Gh.trans {k0 : Nat} {s s1 s2 : St} (a : Gh k0 s s1) (b : Gh k0 s1 s2) : Gh k0 s s2 := fun C w0 h0 ow0 r0 n ac w h ow ρ hk r => by
  obtain ⟨h1, ow1, ρ1, r1⟩ := a C w0 h0 ow0 r0 n ac w h ow ρ hk r
  exact b C w0 h0 ow0 r0 n ac w h1 ow1 ρ1 hk r1
theorem flatP_rows {w h ρ O} : ∀ {xs : List (List PD)} {vs : List Value} {k : Nat}, RepDs w h ρ (flatP xs) O k vs → RepRows w h xs (fun j => vs[j]?)
  | [], vs, k, r => by simp only [RepRows]
  | x :: xs, vs, k, r => by
    rw [flatP_cons] at r
    have hl := r.length
    simp only [RepRows]
    constructor
    · refine RepRow.of_get fun j c hc => ?_
      have hj := (List.getElem?_eq_some_iff.1 hc).1
      obtain ⟨v, q1, q2⟩ := r.get j (.p c) (by rw [List.getElem?_append_left (by simpa using hj), List.getElem?_map, hc]; rfl)
      simp only [RepD] at q2
      exact ⟨v, q1, q2⟩
    · have : RepDs w h ρ (flatP xs) O (k + x.length) (vs.drop x.length) := by
        simp at hl
        refine RepDs.of_get (by simp; omega) fun i d v hd hv => ?_
        obtain ⟨v', q1, q2⟩ := r.get (x.length + i) d (by rw [List.getElem?_append_right (by simp)]; simpa using hd)
        rw [List.getElem?_drop, q1] at hv; injection hv with hv; subst hv
        rw [Nat.add_assoc]; exact q2
      refine RepRows.mono (Stable.refl w h) xs _ _ _ (fun j hj => ?_) rfl (flatP_rows this)
      rw [List.getElem?_drop]
theorem Gh.freeze {k0 : Nat} {s : St} (t : Tmp) (id z n : Nat) (xs : List (List PD)) (h1 : s.tm t = .arr id 0 z n) (h2 : s.hp[id]? = some (flatP xs)) (h0z : 0 < z) (h3 : ∀ x ∈ xs, x.length = z) (h4 : n = xs.length) :
    Gh k0 s { s.put (some t) (.p (.sl z xs)) with hp := s.hp.set id [] } := by
  intro C w0 m0 ow0 r0 nt a w h ow ρ _ r
  have ht := r.tm t
  rw [h1] at ht
  simp only [RepD] at ht
  obtain ⟨b, hρ, hv⟩ := ht
  have hdom : ∀ i, nt ≤ i → (({ s.put (some t) (.p (.sl z xs)) with hp := s.hp.set id [] } : St)).tm i = .un := fun i hi => by
    simp only [St.put]
    split
    · rename_i e; subst e; rw [r.dom i hi] at h1; cases h1
    · exact r.dom i hi
  have killed : ∀ (h' : Mark) (ow' : Own), (∀ i b', i ≠ id → ρ[i]? = some b' → ow b' = some (.box i) → ow' b' = some (.box i) ∧ h' b' = h b') → (∀ i q p, i ≠ id → ow q = some (.cell (i :: p)) → h' q = h q ∧ ow' q = some (.cell (i :: p))) → Stable w h w h' → (∀ g, ow' g ≠ none → ow g ≠ none) → (∀ b, w.heap.size ≤ b → h' b = 0) →
      HR w h' ρ ow' (s.hp.set id []) := by
    intro h' ow' q1 q2 hst q3 q4
    refine ⟨by simp [r.hr.len], fun i bx b' g1 g2 hne => ?_, fun g hg => r.hr.lt g (q3 g hg), q4⟩
    have hid : i ≠ id := by
      intro e; subst e
      rw [List.getElem?_set_self (List.getElem?_eq_some_iff.1 h2).1] at g1
      injection g1 with g1; exact hne g1.symm
    rw [List.getElem?_set_ne (fun e => hid e.symm)] at g1
    obtain ⟨p1, p2, cs, T, hh, hl, hrr⟩ := r.hr.box i bx b' g1 g2 hne
    obtain ⟨k1, k2⟩ := q1 i b' hid g2 p1
    exact ⟨k1, by rw [k2]; exact p2, cs, T, hh, hl, RepDs.step hst (fun _ _ h => h) bx _ _ 0 _ (fun q p ho => ⟨rfl, (q2 i q p hid ho).1, (q2 i q p hid ho).2⟩) hrr⟩
  by_cases hx : xs = []
  · -- nothing in it
    subst hx
    refine ⟨h, ow, ρ, r.glob, r.fr, killed h ow (fun i b' _ _ q => ⟨q, rfl⟩) (fun i q p _ ho => ⟨rfl, ho⟩) (Stable.refl w h) (fun g hg => hg) r.hr.hz, r.defers, r.size, fun i => ?_, hdom, r.pre⟩
    simp only [St.put]
    by_cases hi : i = t
    · rw [if_pos hi]
      simp only [RepD, Rep]
      subst hi
      left
      refine ⟨trivial, ?_⟩
      rcases hv with ⟨_, a', c, q1, q2⟩ | ⟨cap, cs, T, f, q1, q2, _⟩
      · exact ⟨a', c, q1, q2⟩
      · subst h4; exact ⟨some ⟨b, 0, none⟩, cap, q2, by simp⟩
    · rw [if_neg hi]; exact r.tm i
  · have hxl : 0 < xs.length := List.length_pos_iff.2 hx
    rcases hv with ⟨q, _⟩ | ⟨cap, cs0, T0, f0, q1, q2, q3, q4⟩
    · omega
    have hne : flatP xs ≠ [] := fun e => by
      have := flatP_len h3
      rw [e, List.length_nil] at this
      have := Nat.mul_pos hxl h0z
      omega
    obtain ⟨p1, p2, cs, T, hh, hl, hrr⟩ := r.hr.box id _ b h2 hρ hne
    have hbl := flatP_len h3
    have hblt := r.hr.lt b (by rw [p1]; simp)
    let h' : Mark := fun q => if q = b then xs.length * z else h q
    let ow' : Own := fun q => if q = b then none else ow q
    have hst : Stable w h w h' := ⟨fun q => by show h q ≤ if q = b then _ else _; split
                                               · rename_i e; rw [e, p2]; exact Nat.zero_le _
                                               · exact Nat.le_refl _, fun _ _ _ => rfl, fun b cs T f q => ⟨cs, f, q, rfl⟩⟩
    have hnb : ∀ q pos, ow q = some pos → pos ≠ .box id → q ≠ b := fun q pos ho hp e => by
      rw [e, p1] at ho; injection ho with ho; exact hp ho.symm
    refine ⟨h', ow', ρ, ⟨r.glob.nb, fun q hq => ⟨(r.glob.eq q hq).1, ?_⟩⟩, ⟨r.fr.st.trans hst, r.fr.size, r.fr.os, r.fr.tape, r.fr.output, fun q hq ho => ?_⟩,
      killed h' ow' (fun i b' hi _ q => ?_) (fun i q p hi ho => ?_) hst (fun g hg => ?_) (fun q hq => ?_), r.defers, r.size, fun i => ?_, hdom, r.pre⟩
    · show (if q = b then none else ow q) = none
      split
      · rfl
      · exact (r.glob.eq q hq).2
    · obtain ⟨e1, e2, e3⟩ := r.fr.keep q hq ho
      have hqb : q ≠ b := fun e => by rw [e, p1] at e3; cases e3
      exact ⟨e1, by show (if q = b then _ else _) = _; rw [if_neg hqb]; exact e2, by show (if q = b then _ else _) = _; rw [if_neg hqb]; exact e3⟩
    · have hb' : b' ≠ b := hnb b' _ q (fun e => by injection e with e; exact hi e)
      exact ⟨by show (if b' = b then _ else _) = _; rw [if_neg hb']; exact q, by show (if b' = b then _ else _) = _; rw [if_neg hb']⟩
    · have hb' : q ≠ b := hnb q _ ho (by simp)
      exact ⟨by show (if q = b then _ else _) = _; rw [if_neg hb'], by show (if q = b then _ else _) = _; rw [if_neg hb']; exact ho⟩
    · by_cases e : g = b
      · rw [e, p1]; simp
      · have : ow' g = ow g := by show (if g = b then _ else _) = _; rw [if_neg e]
        rw [this] at hg; exact hg
    · have : q ≠ b := by omega
      show (if q = b then _ else _) = 0
      rw [if_neg this]; exact r.hr.hz q hq
    · simp only [St.put]
      by_cases hi : i = t
      · rw [if_pos hi]
        subst hi
        simp only [RepD, Rep]
        right
        refine ⟨b, 0, cap, by rw [q2, h4], by omega, by show _ ≤ (if b = b then _ else _); rw [if_pos rfl]; omega, h3, ?_⟩
        refine RepRows.mono hst xs _ _ (xs.length * z) (fun j hj => ?_) (rowsLen xs z h3) (flatP_rows hrr)
        rw [List.getElem?_take, if_pos (by omega), Array.getElem?_toList]
        simp only [Nat.zero_add, World.cell?, hh]; rfl
      · rw [if_neg hi]
        refine RepD.step hst (fun _ _ h => h) _ _ _ _ (fun q p ho => ?_) (r.tm i)
        have hb' : q ≠ b := hnb q _ ho (by simp)
        exact ⟨rfl, by show (if q = b then _ else _) = _; rw [if_neg hb'], by show (if q = b then _ else _) = _; rw [if_neg hb']; exact ho⟩
def renD (js : List Nat) (d : DV) : DV := if (refsD d).all (fun i => js.contains i) then mapRef (idxIn js) d else .un
def renSt (js : List Nat) (hp' : List (List DV)) (s : St) : St := ⟨fun i => renD js (s.tm i), hp'⟩
def renP (js : List Nat) : Pos → Pos
  | .box i => if js.contains i then .box (idxIn js i) else .res []
  | .cell (i :: p) => if js.contains i then .cell (idxIn js i :: p) else .res []
  | .cell [] => .res []
  | x => x
theorem Gh.ren {k0 : Nat} {s : St} (js : List Nat) (sub : List (List DV)) (hsub : subHp s.hp js = some sub) (hnd : js.Nodup) (hk : js.take k0 = List.range k0) (hcl : (sub.all fun b => (refsDs b).all fun i => js.contains i) = true) :
    Gh k0 s (renSt js (sub.map (mapRefs (idxIn js))) s) := by
  intro C w0 m0 ow0 r0 nt a w h ow ρ hr0 r
  obtain ⟨hsl, hsubspec⟩ := subHp_spec hsub
  have hidlt : ∀ i ∈ js, i < s.hp.length := by
    intro i hi
    obtain ⟨j, hj⟩ := List.mem_iff_getElem?.1 hi
    obtain ⟨b, q1, _⟩ := hsubspec j i hj
    exact (List.getElem?_eq_some_iff.1 q1).1
  have hρget : ∀ i ∈ js, ρ[i]? = some (ρ.getD i 0) := by
    intro i hi
    have hlt : i < ρ.length := by rw [← r.hr.len]; exact hidlt i hi
    rw [List.getElem?_eq_getElem hlt, List.getD_eq_getElem?_getD, List.getElem?_eq_getElem hlt]; rfl
  let ρ' : List Nat := js.map fun i => ρ.getD i 0
  let ow' : Own := fun g => (ow g).map (renP js)
  have hρ' : ∀ i ∈ js, ρ'[idxIn js i]? = ρ[i]? := by
    intro i hi
    simp only [ρ', List.getElem?_map, idx_get hi, Option.map_some, hρget i hi]
  have hB : HR w h ρ' ow' (sub.map (mapRefs (idxIn js))) := by
    refine ⟨by simp [ρ', hsl], fun j bx b g1 g2 hne => ?_, fun g hg => r.hr.lt g (fun e => hg (by simp [ow', e])), r.hr.hz⟩
    simp only [ρ', List.getElem?_map] at g1 g2
    obtain ⟨i, hi1, hi2⟩ := Option.map_eq_some_iff.1 g2
    obtain ⟨bx0, hb1, hb2⟩ := hsubspec j i hi1
    have hi : i ∈ js := List.mem_of_getElem? hi1
    rw [hb2] at g1
    simp only [Option.map_some, Option.some.injEq] at g1
    subst g1
    have hρi : ρ[i]? = some b := by rw [hρget i hi, hi2]
    obtain ⟨p1, p2, cs, T, hh, hl0, hrr⟩ := r.hr.box i bx0 b hb1 hρi (fun e => hne (by rw [e]; rfl))
    have hj : idxIn js i = j := idx_of_get hnd hi1
    refine ⟨by simp [ow', p1, renP, hi, hj], p2, cs, T, hh, by rw [mapRefs_len]; exact hl0, ?_⟩
    rw [mapRefs_len]
    refine RepDs.mapRefs _ _ _ _ _ (fun i' hi' => hρ' i' ?_) (hrr.rename fun g p ho => by simp [ow', ho, renP, hi, hj])
    have hc := List.all_eq_true.1 hcl bx0 (List.mem_of_getElem? hb2)
    have := List.all_eq_true.1 hc i' hi'
    simpa using this
  refine ⟨h, ow', ρ', ⟨r.glob.nb, fun b hb => ⟨(r.glob.eq b hb).1, by simp [ow', (r.glob.eq b hb).2]⟩⟩, ⟨r.fr.st, r.fr.size, r.fr.os, r.fr.tape, r.fr.output, fun b hb ho => ?_⟩, hB, r.defers, r.size, fun i => ?_, fun i hi => ?_, ?_⟩
  · obtain ⟨e1, e2, e3⟩ := r.fr.keep b hb ho
    exact ⟨e1, e2, by simp [ow', e3]⟩
  · show RepD w h ρ' (renD js (s.tm i)) _ _
    unfold renD
    split
    · rename_i hall
      refine RepD.mapRef _ _ _ _ (fun i' hi' => hρ' i' ?_) ((r.tm i).rename fun g p ho => by simp [ow', ho, renP])
      have := List.all_eq_true.1 hall i' hi'
      simpa using this
    · simp only [RepD]
  · show renD js (s.tm i) = .un
    rw [r.dom i hi]; simp [renD, refsD, mapRef]
  · obtain ⟨ex, hex⟩ := r.pre
    have hlen : r0.length ≤ js.length := by
      have := congrArg List.length hk
      simp at this; omega
    refine ⟨ρ'.drop r0.length, ?_⟩
    rw [← List.take_append_drop r0.length ρ']
    congr 1
    · apply List.ext_getElem?
      intro i
      by_cases hi : i < r0.length
      · rw [List.getElem?_take, if_pos hi]
        have hji : js[i]? = some i := by
          have h1 : (js.take k0)[i]? = (List.range k0)[i]? := by rw [hk]
          rw [List.getElem?_take, if_pos (by omega), List.getElem?_range (by omega)] at h1
          exact h1
        have him : i ∈ js := List.mem_of_getElem? hji
        simp only [ρ', List.getElem?_map, hji, Option.map_some]
        rw [← hρget i him, hex, List.getElem?_append_left hi]
      · rw [List.getElem?_take, if_neg hi, List.getElem?_eq_none (by omega)]
    · simp
end Go.Proofs.Dm

set_option linter.unusedVariables false
set_option linter.unusedSimpArgs false
namespace Go.Proofs.Dm
open Go Go.RowKit
theorem HR.take {w h ρ ow bs} (r : HR w h ρ ow bs) (m : Nat) (hm : m ≤ bs.length) (f : Pos → Pos) (hbox : ∀ i, f (.box i) = .box i)
    (hcell : ∀ (i : Nat) (p : List Nat), i < m → (∃ bx, bs[i]? = some bx ∧ hasOwns bx = true) → f (.cell (i :: p)) = .cell (i :: p))
    (hrefs : ∀ b ∈ bs.take m, ∀ i ∈ refsDs b, i < m) : HR w h (ρ.take m) (fun g => (ow g).map f) (bs.take m) := by
  refine ⟨by simp [r.len], fun i bx b g1 g2 hne => ?_, fun g hg => r.lt g (fun e => hg (by simp [e])), r.hz⟩
  have hmem := List.mem_of_getElem? g1
  rw [List.getElem?_take] at g1 g2
  split at g1
  · rename_i hi
    rw [if_pos hi] at g2
    obtain ⟨p1, p2, cs, T, hh, hl0, hrr⟩ := r.box i bx b g1 g2 hne
    refine ⟨by simp [p1, hbox], p2, cs, T, hh, hl0, ?_⟩
    have hmap : mapRefs (fun i => i) bx = bx := mapRefs_id bx
    have goal : RepDs w h (ρ.take m) (mapRefs (fun i => i) bx) (fun g p => (fun g => (ow g).map f) g = some (.cell (i :: p))) 0 (cs.toList.take bx.length) := ?_
    · rw [hmap] at goal; exact goal
    refine RepDs.mapRefs (ρ := ρ) _ _ _ _ _ (fun j hj => ?_) ?_
    · rw [List.getElem?_take, if_pos (hrefs bx hmem j hj)]
    · by_cases ho : hasOwns bx = true
      · exact hrr.rename fun g p q => by
          simp only [q, Option.map_some]
          rw [hcell i p hi ⟨bx, g1, ho⟩]
      · exact RepDs.free _ _ _ _ _ (by simpa using ho) hrr
  · cases g1
where
  mapRef_id : ∀ d : DV, mapRef (fun i => i) d = d
    | .ref i o => rfl
    | .agg cs => by simp only [mapRef, mapRefs_id cs]
    | .tup cs => by simp only [mapRef, mapRefs_id cs]
    | .fn g cs => by simp only [mapRef, mapRefs_id cs]
    | .p _ => rfl
    | .nil => rfl
    | .own _ _ _ => rfl
    | .fr _ => rfl
    | .un => rfl
    | .ud => rfl
    | .arr _ _ _ _ => rfl
    | .cp _ _ => rfl
    | .mt _ _ => rfl
    | .bn _ _ _ => rfl
  mapRefs_id : ∀ ds : List DV, mapRefs (fun i => i) ds = ds
    | [] => rfl
    | d :: ds => by simp only [mapRefs, mapRef_id d, mapRefs_id ds]
def dropD (k : Nat) (d : DV) : DV := if (refsD d).all (· < k) then d else .un
def dropSt (k : Nat) (s : St) : St := ⟨fun i => dropD k (s.tm i), s.hp.take k⟩
theorem Rel.drop {C w0 h0 ow0 r0 n s a w h ow ρ} (r : Rel C w0 h0 ow0 r0 n s a w h ow ρ) (k : Nat) (hk : k ≤ s.hp.length) (hr0 : r0.length ≤ k) (hrefs : ((s.hp.take k).all fun b => (refsDs b).all (· < k)) = true) :
    Rel C w0 h0 ow0 r0 n (dropSt k s) a w h ow (ρ.take k) := by
  have hb : ∀ b ∈ s.hp.take k, ∀ i ∈ refsDs b, i < k := by
    intro b hb i hi
    have := List.all_eq_true.1 hrefs b hb
    simpa using List.all_eq_true.1 this i hi
  refine ⟨r.glob, r.fr, ?_, r.defers, r.size, fun i => ?_, fun i hi => ?_, ?_⟩
  · have := r.hr.take k hk (fun p => p) (fun _ => rfl) (fun _ _ _ _ => rfl) hb
    have e : (fun g => (ow g).map (fun p => p)) = ow := by funext g; simp
    rw [e] at this
    exact this
  · show RepD w h (ρ.take k) (dropD k (s.tm i)) _ _
    unfold dropD
    split
    · rename_i hall
      rw [← HR.take.mapRef_id (s.tm i)]
      refine RepD.mapRef _ _ _ _ (fun j hj => ?_) (r.tm i)
      rw [List.getElem?_take, if_pos (by simpa using List.all_eq_true.1 hall j hj)]
    · simp only [RepD]
  · show dropD k (s.tm i) = .un
    rw [r.dom i hi]; simp [dropD, refsD]
  · obtain ⟨ex, hex⟩ := r.pre
    refine ⟨ex.take (k - r0.length), ?_⟩
    rw [hex, List.take_append, List.take_of_length_le hr0]
theorem Rel.r0len {C w0 h0 ow0 r0 n s a w h ow ρ} (r : Rel C w0 h0 ow0 r0 n s a w h ow ρ) : r0.length ≤ s.hp.length := by
  obtain ⟨ex, hex⟩ := r.pre
  rw [r.hr.len, hex]; simp
theorem Gh.drop {k0 : Nat} {s : St} (k : Nat) (h3 : k0 ≤ k) (h4 : k ≤ s.hp.length) (h5 : ((s.hp.take k).all fun b => (refsDs b).all (· < k)) = true) : Gh k0 s (dropSt k s) :=
  fun C w0 h0 ow0 r0 n a w h ow ρ hr0 r => ⟨h, ow, _, r.drop k h4 (by omega) h5⟩
def RoundEnd (I : Nat → St → Prop) (k0 m : Nat) (s : St) : Prop :=
  ∃ m' s', m' < m ∧ Gh k0 s s' ∧ I m' s'
def Start (I : Nat → St → Prop) (m : Nat) (s : St) : Prop := ∃ s', Gh s.hp.length s s' ∧ I m s'
theorem Start.here {I : Nat → St → Prop} {m : Nat} {s : St} (h : I m s) : Start I m s := ⟨s, Gh.refl _ _, h⟩
inductive DX where
  | norm
  | exit (id : Nat)
  | goto (l : Nat)
  | ret
def DX.up : DX → Exit
  | .norm => .normal
  | .exit i => .exit i
  | .goto l => .goto l
  | .ret => .ret
def Lift (C : Ctx) (w0 : World) (h0 : Mark) (ow0 : Own) (r0 : List Nat) (n : Nat) (Q : DX → St → Prop) : Exit → Act → World → Prop :=
  fun e a w => ∃ dx s h ow ρ, dx.up = e ∧ Q dx s ∧ Rel C w0 h0 ow0 r0 n s a w h ow ρ
theorem Lift.norm {C w0 h0 ow0 r0 n Q a w} (l : Lift C w0 h0 ow0 r0 n Q .normal a w) : ∃ s h ow ρ, Q .norm s ∧ Rel C w0 h0 ow0 r0 n s a w h ow ρ := by
  obtain ⟨dx, s, h, ow, ρ, e, q, r⟩ := l
  cases dx <;> simp [DX.up] at e
  exact ⟨s, h, ow, ρ, q, r⟩
def regionTo (C : Ctx) (n : Nat) (ops : Array Oper) (draw : Bool) (s s' : St) : Prop := if draw then drawTo C n ops.toList s s' else opsTo C n ops ops.toList s s'
def dwp (C : Ctx) (n : Nat) : Code → (DX → St → Prop) → St → Prop
  | .skip, Q, s => Q .norm s
  | .label _, Q, s => Q .norm s
  | .region _ ops draw, Q, s => ∃ s', regionTo C n ops draw s s' ∧ Q .norm s'
  | .seq a b, Q, s => dwp C n a (fun e s' => match e with
    | .norm => dwp C n b Q s'
    | e => Q e s') s
  | .cond c a b, Q, s => match evalD s c with
    | some (.p (.bool t)) => (t = true → dwp C n a Q s) ∧ (t = false → dwp C n b Q s)
    | _ => False
  | .block id c, Q, s => dwp C n c (fun e s' => match e with
    | .exit j => if j = id then Q .norm s' else Q (.exit j) s'
    | e => Q e s') s
  | .loop c, Q, s0 => ∃ (I : Nat → St → Prop) (m : Nat), Start I m s0 ∧ ∀ m s, I m s → dwp C n c (fun e s' => match e with
    | .norm => RoundEnd I s0.hp.length m s'
    | e => Q e s') s
  | .exit id, Q, s => Q (.exit id) s
  | .goto l, Q, s => Q (.goto l) s
  | .ret, Q, s => Q .ret s
  | _, _, _ => False
theorem dwp_ok {C w0 h0 ow0 r0 n} : ∀ (c : Code) (Q : DX → St → Prop) (s : St), dwp C n c Q s → Good C w0 h0 ow0 r0 n s (fun a w => c.wp C.P (Lift C w0 h0 ow0 r0 n Q) a w)
  | .skip, Q, s, e => fun a w h ow ρ r => wp_skip ⟨.norm, s, h, ow, ρ, rfl, e, r⟩
  | .label _, Q, s, e => fun a w h ow ρ r => wp_label ⟨.norm, s, h, ow, ρ, rfl, e, r⟩
  | .exit id, Q, s, e => fun a w h ow ρ r => wp_exit ⟨.exit id, s, h, ow, ρ, rfl, e, r⟩
  | .goto l, Q, s, e => fun a w h ow ρ r => wp_goto ⟨.goto l, s, h, ow, ρ, rfl, e, r⟩
  | .ret, Q, s, e => fun a w h ow ρ r => wp_ret ⟨.ret, s, h, ow, ρ, rfl, e, r⟩
  | .region id ops draw, Q, s, e => by
    obtain ⟨s', h1, h2⟩ := e
    intro a w h ow ρ r
    cases draw with
    | false =>
      simp only [regionTo, Bool.false_eq_true, if_false] at h1
      refine wp_region_list ?_
      exact opsTo_ok ops.toList s s' h1 (fun a w h ow ρ r => ⟨.norm, s', h, ow, ρ, rfl, h2, r⟩) a w h ow ρ r
    | true =>
      simp only [regionTo, if_true] at h1
      have := drawTo_ok (id := id) h1 (Q := Lift C w0 h0 ow0 r0 n Q) (fun a w h ow ρ r => ⟨.norm, s', h, ow, ρ, rfl, h2, r⟩) a w h ow ρ r
      simpa using this
  | .seq c d, Q, s, e => by
    intro a w h ow ρ r
    refine wp_seq (wp_mono (dwp_ok c _ s e a w h ow ρ r) ?_)
    rintro x a' w' ⟨dx, s', h', ow', ρ', rfl, q, r'⟩
    cases dx with
    | norm => exact dwp_ok d Q s' q a' w' h' ow' ρ' r'
    | exit i => exact ⟨.exit i, s', h', ow', ρ', rfl, q, r'⟩
    | goto l => exact ⟨.goto l, s', h', ow', ρ', rfl, q, r'⟩
    | ret => exact ⟨.ret, s', h', ow', ρ', rfl, q, r'⟩
  | .cond c x y, Q, s, e => by
    intro a w h ow ρ r
    simp only [dwp] at e
    split at e
    · rename_i t hc
      have hr := evalD_rep r hc
      simp only [RepD, Rep] at hr
      refine wp_cond (t := t) hr ?_
      cases t with
      | true => exact dwp_ok x Q s (e.1 rfl) a w h ow ρ r
      | false => exact dwp_ok y Q s (e.2 rfl) a w h ow ρ r
    · exact e.elim
  | .block id c, Q, s, e => by
    intro a w h ow ρ r
    refine wp_block (wp_mono (dwp_ok c _ s e a w h ow ρ r) ?_)
    rintro x a' w' ⟨dx, s', h', ow', ρ', rfl, q, r'⟩
    cases dx with
    | norm => exact ⟨.norm, s', h', ow', ρ', rfl, q, r'⟩
    | exit i =>
      simp only [DX.up, Exit.inBlock] at q ⊢
      split
      · rename_i hi; rw [if_pos hi] at q; exact ⟨.norm, s', h', ow', ρ', rfl, q, r'⟩
      · rename_i hi; rw [if_neg hi] at q; exact ⟨.exit i, s', h', ow', ρ', rfl, q, r'⟩
    | goto l => exact ⟨.goto l, s', h', ow', ρ', rfl, q, r'⟩
    | ret => exact ⟨.ret, s', h', ow', ρ', rfl, q, r'⟩
  | .loop c, Q, s, e => by
    intro a w h ow ρ r
    obtain ⟨I, m, h1, h2⟩ := e
    have hr00 := r.r0len
    obtain ⟨s1, hgh, h1⟩ := h1
    obtain ⟨h1', ow1', ρ1', r1⟩ := hgh C w0 h0 ow0 r0 n a w h ow ρ hr00 r
    refine wp_loop_ghost (fun m a w => ∃ s h ow ρ, I m s ∧ Rel C w0 h0 ow0 r0 n s a w h ow ρ) m ⟨s1, h1', ow1', ρ1', h1, r1⟩ ?_
    rintro m a w ⟨s, h, ow, ρ, hI, r⟩
    refine wp_mono (dwp_ok c _ s (h2 m s hI) a w h ow ρ r) ?_
    rintro x a' w' ⟨dx, s', h', ow', ρ', rfl, q, r'⟩
    cases dx with
    | norm =>
      obtain ⟨m', s2, k1, k2, k3⟩ := q
      obtain ⟨h2, ow2, ρ2, r2⟩ := k2 C w0 h0 ow0 r0 n a' w' h' ow' ρ' hr00 r'
      exact ⟨m', k1, s2, h2, ow2, ρ2, k3, r2⟩
    | exit i => exact ⟨.exit i, s', h', ow', ρ', rfl, q, r'⟩
    | goto l => exact ⟨.goto l, s', h', ow', ρ', rfl, q, r'⟩
    | ret => exact ⟨.ret, s', h', ow', ρ', rfl, q, r'⟩
  | .rangeFunc _ _ _ _, Q, s, e => by simp [dwp] at e
  | .scope _, Q, s, e => by simp [dwp] at e
  | .refuse _, Q, s, e => by simp [dwp] at e
def oneD (P : Program) (n0 : Nat) (s : St) : ResultVar → Option DV
  | .tmp t => some (s.tm t)
  | .cell a t => match s.tm a, tsz P t, tagg P t with
    | .ref id off, some z, some g => match s.hp[id]? with
      | some box => if off + z ≤ box.length ∧ box ≠ [] ∧ (n0 ≤ id ∨ hasOwns box = false) then asVal g ((box.drop off).take z) else none
      | none => none
    | _, _, _ => none
def manyD (P : Program) (n0 : Nat) (s : St) : List ResultVar → Option (List DV)
  | [] => some []
  | x :: xs => match oneD P n0 s x, manyD P n0 s xs with
    | some d, some ds => some (fz d :: ds)
    | _, _ => none
def resD (P : Program) (n0 : Nat) (s : St) : List ResultVar → Option DV
  | [x] => oneD P n0 s x
  | xs => (manyD P n0 s xs).map .tup
def isCell1 : List ResultVar → Bool
  | [.cell _ _] => true
  | _ => false
def fin (P : Program) (fn : Func) (n0 : Nat) (r : DV) (bs' : List (List DV)) (s0 : St) : Prop :=
  ∃ s, Gh n0 s0 s ∧ ∃ rr m, resD P n0 s fn.results.toList = some rr ∧ Wk rr r ∧ n0 ≤ m ∧ m ≤ s.hp.length ∧ bs' = s.hp.take m ∧ (∀ i ∈ refsD r, i < m) ∧ (∀ b ∈ bs', ∀ i ∈ refsDs b, i < m) ∧ (isCell1 fn.results.toList = true → m = n0)
def mvRes (x : ResultVar) (s : St) (g : Bool) (z : Nat) : Pos → Pos
  | .tmp (i :: p) => match x with
    | .tmp t => if i = t then .res p else .tmp (i :: p)
    | _ => .tmp (i :: p)
  | .cell (i :: k :: p) => match x with
    | .cell a _ => match s.tm a with
      | .ref id off => if i = id ∧ off ≤ k ∧ k < off + z then .res (if g then (k - off) :: p else p) else .cell (i :: k :: p)
      | _ => .cell (i :: k :: p)
    | _ => .cell (i :: k :: p)
  | p => p
theorem cell_run {P : Program} {t z g} (hz : tsz P t = some z) (hg : tagg P t = some g) (b off : Nat) (w : World) (vs : List Value) (hl : vs.length = z)
    (hc : ∀ j v, vs[j]? = some v → w.cell? ⟨b, off + j, none⟩ = some v) (v : Value) (hv : (g = true ∧ v = .agg vs.toArray) ∨ (g = false ∧ vs = [v])) :
    (loadVar t ⟨b, off, none⟩).run P w = .ok v w := by
  have := load_run hz hg b off w vs hl hc v hv
  simpa only [Instr.loadAt, Instr.sureAddr, Sem.run_bind, Sem.run_pure, Result.andThen_ok] using this
theorem oneD_ok {C w0 h0 ow0 r0 n s a w h ow ρ} (r : Rel C w0 h0 ow0 r0 n s a w h ow ρ) {n0 : Nat} {x : ResultVar} {d : DV} (e : oneD C.P n0 s x = some d) :
    ∃ v g z, (match x with | .tmp t => pure (a.tmps.getD t undef) | .cell b t => do loadVar t (← asAddr (a.tmps.getD b undef)) : Sem Value).run C.P w = .ok v w ∧
      RepD w h ρ d (fun q p => (ow q).map (mvRes x s g z) = some (.res p)) v ∧
      (∀ (i : Nat) (p : List Nat), i < n0 → (∃ bx, s.hp[i]? = some bx ∧ hasOwns bx = true) → mvRes x s g z (.cell (i :: p)) = .cell (i :: p)) := by
  cases x with
  | tmp t =>
    simp only [oneD, Option.some.injEq] at e
    subst e
    refine ⟨a.tmps.getD t undef, false, 0, rfl, (r.tm t).rename fun g p ho => by simp [ho, mvRes], fun i p _ _ => by cases p <;> simp [mvRes]⟩
  | cell b t =>
    simp only [oneD] at e
    split at e
    · rename_i id off z g htm hz hg
      split at e
      · rename_i box hb
        split at e
        · rename_i hc
          obtain ⟨hoff, hne, hown⟩ := hc
          have hx' := r.tm b
          rw [htm] at hx'
          simp only [RepD] at hx'
          obtain ⟨bb, hρ, hv⟩ := hx'
          obtain ⟨p1, p2, cs, T, hh, hl0, hrr⟩ := r.hr.box id box bb hb hρ hne
          have hlen := hrr.length
          have hdt : ((cs.toList.take box.length).drop off).take z = (cs.toList.drop off).take z := by
            rw [List.drop_take, List.take_take]; congr 1; omega
          have hcell : ∀ j u, ((cs.toList.drop off).take z)[j]? = some u → w.cell? ⟨bb, off + j, none⟩ = some u := by
            intro j u hj
            rw [List.getElem?_take] at hj
            split at hj
            · rw [List.getElem?_drop, Array.getElem?_toList] at hj
              simp [World.cell?, hh, hj]
            · cases hj
          have hl : ((cs.toList.drop off).take z).length = z := by simp at hlen ⊢; omega
          have hsub := repDs_part hrr off z
          rw [hdt] at hsub
          have hO2 : RepDs w h ρ ((box.drop off).take z) (fun q p => match p with | k :: p' => k < z ∧ ow q = some (.cell (id :: (off + k) :: p')) | [] => False) 0 ((cs.toList.drop off).take z) := by
            refine RepDs.of_get hsub.length fun i d v hd hv => ?_
            obtain ⟨v', h1, h2⟩ := hsub.get i d hd
            rw [h1] at hv; injection hv with hv; subst hv
            have hi : i < z := by
              have := (List.getElem?_eq_some_iff.1 h1).1
              rw [hl] at this; exact this
            exact h2.rename fun g p ho => by simpa using ⟨hi, ho⟩
          obtain ⟨u, hu1, hu2⟩ := asVal_rep e hO2 (fun q p => (ow q).map (mvRes (.cell b t) s g z) = some (.res p))
            (fun q k p ho => by
              obtain ⟨hk, ho⟩ := ho
              simp only [ho, Option.map_some, mvRes, htm]
              rw [if_pos ⟨trivial, by omega, by omega⟩]
              simp)
          refine ⟨u, g, z, ?_, hu2, fun i p hi hex => ?_⟩
          · simp only [hv, asAddr, Sem.run_bind, Sem.run_pure, Result.andThen_ok]
            exact cell_run hz hg bb off w _ hl hcell u hu1
          · cases p with
            | nil => simp [mvRes]
            | cons k p =>
              simp only [mvRes, htm]
              rw [if_neg]
              rintro ⟨q1, q2, q3⟩
              obtain ⟨bx, q4, q5⟩ := hex
              rw [q1] at hi q4
              rw [hb] at q4; injection q4 with q4; subst q4
              rcases hown with q | q
              · omega
              · rw [q] at q5; cases q5
        · cases e
      · cases e
    · cases e
theorem manyD_ok {C w0 h0 ow0 r0 n s a w h ow ρ} (r : Rel C w0 h0 ow0 r0 n s a w h ow ρ) {n0 : Nat} : ∀ {xs : List ResultVar} {ds : List DV}, manyD C.P n0 s xs = some ds →
    ∃ vs, (xs.mapM fun x => (match x with | .tmp t => pure (a.tmps.getD t undef) | .cell b t => do loadVar t (← asAddr (a.tmps.getD b undef)) : Sem Value)).run C.P w = .ok vs w ∧ ∀ O k, RepDs w h ρ ds O k vs
  | [], ds, e => by simp only [manyD, Option.some.injEq] at e; subst e; exact ⟨[], by simp, fun O k => by simp only [RepDs]⟩
  | x :: xs, ds, e => by
    simp only [manyD] at e
    split at e
    · rename_i d ds' h1 h2
      injection e with e; subst e
      obtain ⟨v, g, z, q1, q2, _⟩ := oneD_ok r h1
      obtain ⟨vs, q3, q4⟩ := manyD_ok r h2
      refine ⟨v :: vs, ?_, fun O k => ?_⟩
      · simp only [List.mapM_cons, Sem.run_bind, q1, Result.andThen_ok, q3, Sem.run_pure]
      · simp only [RepDs]
        exact ⟨v, vs, rfl, RepD.fz _ _ _ _ q2, q4 O (k + 1)⟩
    · cases e
theorem manyD_len {P : Program} {n0 : Nat} {s : St} : ∀ {xs : List ResultVar} {ds : List DV}, manyD P n0 s xs = some ds → ds.length = xs.length
  | [], ds, e => by simp only [manyD, Option.some.injEq] at e; subst e; rfl
  | x :: xs, ds, e => by
    simp only [manyD] at e
    split at e
    · rename_i d ds' h1 h2
      injection e with e; subst e
      simp [manyD_len h2]
    · cases e
theorem results_run {P : Program} {fn : Func} {tmps : Array Value} {w : World} {vs : List Value}
    (q : (fn.results.toList.mapM fun x => (match x with | .tmp t => pure (tmps.getD t undef) | .cell b t => do loadVar t (← asAddr (tmps.getD b undef)) : Sem Value)).run P w = .ok vs w) :
    (results fn tmps).run P w = .ok (if h : vs.toArray.size = 1 then vs.toArray[0] else .tuple vs.toArray) w := by
  unfold results
  rw [Array.mapM_eq_mapM_toList]
  rw [Sem.run_bind, Sem.run_map]
  erw [q]
  simp only [Result.andThen_ok, Sem.run_pure]
theorem dcalls_of_body {C : Ctx} {f : FuncId} {fn : Func} {c : Code} (hf : C.P.funcs[f]? = some fn) (hb : fn.body = some c) (hname : (fn.name == "runtime.NumGoroutine") = false) {args : List DV} {bs : List (List DV)} {r : DV} {bs' : List (List DV)}
    (hn : args.length ≤ fn.ntmps) (h : dwp C fn.ntmps c (fun e s => (match e with | .norm => True | .ret => True | _ => False) ∧ fin C.P fn bs.length r bs' s) ⟨fun i => args.getD i .un, bs⟩) : DCalls C f args bs r bs' := by
  refine ⟨⟨fn, hf, hname, by rw [hb]; rfl⟩, fun w hm ow ρ vs ha hbx hg => ?_⟩
  have hvl := ha.length
  have r0 : Rel C w hm ow ρ fn.ntmps ⟨fun i => args.getD i .un, bs⟩ { tmps := vs.toArray ++ Array.replicate (fn.ntmps - vs.toArray.size) undef, defers := [] } w hm ow ρ := by
    refine ⟨hg, Fr.refl _ _ _, hbx, rfl, ?_, fun i => ?_, fun i hi => ?_, ⟨[], by simp⟩⟩
    · simp; omega
    · simp only []
      by_cases hi : i < args.length
      · rw [List.getD_eq_getElem?_getD, List.getElem?_eq_getElem hi]
        obtain ⟨v, q1, q2⟩ := ha.get i args[i] (List.getElem?_eq_getElem hi)
        have : (vs.toArray ++ Array.replicate (fn.ntmps - vs.toArray.size) undef).getD i undef = v := by
          rw [Array.getD_eq_getD_getElem?, Array.getElem?_append_left (by simp; omega)]
          simp [q1]
        rw [this]
        simpa using q2
      · rw [List.getD_eq_getElem?_getD, List.getElem?_eq_none (by omega)]
        simp only [Option.getD_none, RepD]
    · show args.getD i .un = .un
      rw [List.getD_eq_getElem?_getD, List.getElem?_eq_none (by omega)]; rfl
  refine calls_of_wp hf hb (wp_mono (dwp_ok c _ _ h _ _ _ _ _ r0) ?_)
  rintro e a w' ⟨dx, s00, h00, ow00, ρ00, rfl, ⟨hdx, s, hgh, rr, m, hres, hwk, hm1, hm2, hbs', hr1, hr2, hcell1⟩, rel00⟩
  obtain ⟨h', ow', ρ', rel⟩ := hgh C w hm ow ρ fn.ntmps a w' h00 ow00 ρ00 (by rw [hbx.len]; exact Nat.le_refl _) rel00
  obtain ⟨ex, hex⟩ := rel.pre
  have hρl : s.hp.length = ρ'.length := rel.hr.len
  have hbl : bs.length = ρ.length := hbx.len
  have main : a.defers = [] ∧ ∃ v, (results fn a.tmps).run C.P w' = .ok v w' ∧ ∃ v0 h'' ow'' ex', Ending.returned v = .returned v0 ∧ Fr w hm ow w' h'' ow'' ∧ HR w' h'' (ρ ++ ex') ow'' bs' ∧ RepD w' h'' (ρ ++ ex') r (fun g p => ow'' g = some (.res p)) v0 := by
    refine ⟨rel.defers, ?_⟩
    have hex' : ρ'.take m = ρ ++ ex.take (m - ρ.length) := by
      rw [hex, List.take_append, List.take_of_length_le (by omega)]
    have fin1 : ∀ (v : Value) (f : Pos → Pos), (∀ i, f (.box i) = .box i) → (∀ (i : Nat) (p : List Nat), i < m → (∃ bx, s.hp[i]? = some bx ∧ hasOwns bx = true) → f (.cell (i :: p)) = .cell (i :: p)) →
        RepD w' h' ρ' rr (fun q p => (ow' q).map f = some (.res p)) v →
        ∃ v0 h'' ow'' ex', Ending.returned v = .returned v0 ∧ Fr w hm ow w' h'' ow'' ∧ HR w' h'' (ρ ++ ex') ow'' bs' ∧ RepD w' h'' (ρ ++ ex') r (fun g p => ow'' g = some (.res p)) v0 := by
      intro v f hfb hfc hrv
      refine ⟨v, h', fun g => (ow' g).map f, ex.take (m - ρ.length), rfl, ?_, ?_, ?_⟩
      · refine ⟨rel.fr.st, rel.fr.size, rel.fr.os, rel.fr.tape, rel.fr.output, fun b hb ho => ?_⟩
        obtain ⟨e1, e2, e3⟩ := rel.fr.keep b hb ho
        exact ⟨e1, e2, by simp [e3]⟩
      · rw [← hex', hbs']
        exact rel.hr.take m hm2 f hfb hfc (by rw [← hbs']; exact hr2)
      · rw [← hex', ← HR.take.mapRef_id r]
        exact RepD.mapRef _ _ _ _ (fun j hj => by rw [List.getElem?_take, if_pos (hr1 j hj)]) (RepD.wk hwk hrv)
    have hresd : fn.results = fn.results.toList.toArray := by simp
    rcases hrl : fn.results.toList with _ | ⟨x, _ | ⟨y, xs⟩⟩
    · rw [hrl] at hres hresd
      simp only [resD, manyD, Option.map_some, Option.some.injEq] at hres
      subst hres
      refine ⟨.tuple #[], by simp [results, hresd], fin1 _ (fun p => p) (fun _ => rfl) (fun _ _ _ _ => rfl) ?_⟩
      simp only [RepD]
      exact ⟨#[], rfl, by simp only [RepDs]⟩
    · rw [hrl] at hres hresd
      simp only [resD] at hres
      obtain ⟨v, g, z, q1, q2, q3⟩ := oneD_ok rel hres
      refine ⟨v, ?_, fin1 v (mvRes x s g z) (fun i => rfl) (fun i p hi hexx => ?_) q2⟩
      · rw [results_run (vs := [v]) (by rw [hrl]; simp only [List.mapM_cons, List.mapM_nil, Sem.run_bind, Sem.run_pure, q1, Result.andThen_ok])]
        simp
      · cases x with
        | tmp t => cases p <;> simp [mvRes]
        | cell b t =>
          have hm0 : m = bs.length := hcell1 (by rw [hrl]; rfl)
          exact q3 i p (by omega) hexx
    · rw [hrl] at hres hresd
      simp only [resD] at hres
      obtain ⟨ds, h1, h2⟩ := Option.map_eq_some_iff.1 hres
      subst h2
      obtain ⟨vs, q1, q2⟩ := manyD_ok rel h1
      refine ⟨.tuple vs.toArray, ?_, fin1 _ (fun p => p) (fun _ => rfl) (fun _ _ _ _ => rfl) ?_⟩
      · have hl : vs.length = ds.length := (q2 (fun _ _ => False) 0).length
        have hdl : ds.length = (x :: y :: xs).length := manyD_len h1
        rw [results_run (vs := vs) (by rw [hrl]; exact q1)]
        rw [dif_neg (by simp at hdl ⊢; omega)]
      · simp only [RepD]
        exact ⟨_, rfl, by simpa using q2 _ 0⟩
  cases dx with
  | norm => exact main
  | ret => exact main
  | exit i => exact hdx.elim
  | goto l => exact hdx.elim
def cwp (C : Ctx) (n : Nat) : Code → (DX → St → Prop) → St → Prop
  | .skip, Q, s => Q .norm s
  | .label _, Q, s => Q .norm s
  | .region _ ops draw, Q, s => if draw then drawWp C n ops.toList (Q .norm) s else opsWp C n ops.toList ops.toList (Q .norm) s
  | .seq a b, Q, s => cwp C n a (fun e s' => match e with
    | .norm => cwp C n b Q s'
    | e => Q e s') s
  | .cond c a b, Q, s => match evalD s c with
    | some (.p (.bool t)) => IfGoal t (cwp C n a Q) (cwp C n b Q) s
    | _ => False
  | .block id c, Q, s => cwp C n c (fun e s' => match e with
    | .exit j => if j = id then Q .norm s' else Q (.exit j) s'
    | e => Q e s') s
  | .loop c, Q, s0 => ∃ (I : Nat → St → Prop) (m : Nat), Start I m s0 ∧ ∀ m s, I m s → cwp C n c (fun e s' => match e with
    | .norm => RoundEnd I s0.hp.length m s'
    | e => Q e s') s
  | .exit id, Q, s => Q (.exit id) s
  | .goto l, Q, s => Q (.goto l) s
  | .ret, Q, s => Q .ret s
  | _, _, _ => False
theorem dwp_mono {C n} : ∀ (c : Code) {Q Q' : DX → St → Prop} {s : St}, (∀ e s, Q e s → Q' e s) → dwp C n c Q s → dwp C n c Q' s
  | .skip, Q, Q', s, q, e => q _ _ e
  | .label _, Q, Q', s, q, e => q _ _ e
  | .exit id, Q, Q', s, q, e => q _ _ e
  | .goto l, Q, Q', s, q, e => q _ _ e
  | .ret, Q, Q', s, q, e => q _ _ e
  | .region id ops draw, Q, Q', s, q, e => by obtain ⟨s', h1, h2⟩ := e; exact ⟨s', h1, q _ _ h2⟩
  | .seq c d, Q, Q', s, q, e => by
    simp only [dwp] at e ⊢
    refine dwp_mono c (fun x s' h => ?_) e
    cases x <;> first | exact dwp_mono d q h | exact q _ _ h
  | .cond c x y, Q, Q', s, q, e => by
    simp only [dwp] at e ⊢
    split at e
    · exact ⟨fun t => dwp_mono x q (e.1 t), fun t => dwp_mono y q (e.2 t)⟩
    · exact e.elim
  | .block id c, Q, Q', s, q, e => by
    simp only [dwp] at e ⊢
    refine dwp_mono c (fun x s' h => ?_) e
    cases x with
    | exit i =>
      dsimp only at h ⊢
      split
      · rename_i hi; rw [if_pos hi] at h; exact q _ _ h
      · rename_i hi; rw [if_neg hi] at h; exact q _ _ h
    | _ => exact q _ _ h
  | .loop c, Q, Q', s, q, e => by
    simp only [dwp] at e ⊢
    obtain ⟨I, m, h1, h2⟩ := e
    refine ⟨I, m, h1, fun m s hI => dwp_mono c (fun x s' h => ?_) (h2 m s hI)⟩
    cases x <;> first | exact h | exact q _ _ h
  | .rangeFunc _ _ _ _, Q, Q', s, q, e => by simp [dwp] at e
  | .scope _, Q, Q', s, q, e => by simp [dwp] at e
  | .refuse _, Q, Q', s, q, e => by simp [dwp] at e
theorem cwp_to {C n} : ∀ (c : Code) {Q : DX → St → Prop} {s : St}, cwp C n c Q s → dwp C n c Q s
  | .skip, Q, s, e => e
  | .label _, Q, s, e => e
  | .exit id, Q, s, e => e
  | .goto l, Q, s, e => e
  | .ret, Q, s, e => e
  | .region id ops draw, Q, s, e => by
    cases draw with
    | false =>
      simp only [cwp, Bool.false_eq_true, if_false] at e
      obtain ⟨s', h1, h2⟩ := opsWp_to e
      exact ⟨s', by simpa [regionTo] using h1, h2⟩
    | true =>
      simp only [cwp, if_true] at e
      obtain ⟨s', h1, h2⟩ := drawWp_to e
      exact ⟨s', by simpa [regionTo] using h1, h2⟩
  | .seq c d, Q, s, e => by
    simp only [cwp] at e
    simp only [dwp]
    refine dwp_mono c (fun x s' h => ?_) (cwp_to c e)
    cases x <;> first | exact cwp_to d h | exact h
  | .cond c x y, Q, s, e => by
    simp only [cwp] at e
    simp only [dwp]
    split at e
    · rename_i t hc
      refine ⟨fun h => ?_, fun h => ?_⟩
      · rw [h, IfGoal_true] at e; exact cwp_to x e
      · rw [h, IfGoal_false] at e; exact cwp_to y e
    · exact e.elim
  | .block id c, Q, s, e => by simp only [cwp] at e; simp only [dwp]; exact cwp_to c e
  | .loop c, Q, s, e => by
    simp only [cwp] at e
    simp only [dwp]
    obtain ⟨I, m, h1, h2⟩ := e
    exact ⟨I, m, h1, fun m s hI => cwp_to c (h2 m s hI)⟩
  | .rangeFunc _ _ _ _, Q, s, e => by simp [cwp] at e
  | .scope _, Q, s, e => by simp [cwp] at e
  | .refuse _, Q, s, e => by simp [cwp] at e
theorem dcalls_body {P : Program} {W0 : World} {nb : Nat} {f : FuncId} {fn : Func} {c : Code} (hf : P.funcs[f]? = some fn) (hb : fn.body = some c) (hname : (fn.name == "runtime.NumGoroutine") = false) {args : List DV} {bs : List (List DV)} {r : DV} {bs' : List (List DV)}
    (k : Nat) (hk : fn.ntmps = k) (rv : Array ResultVar) (hr : fn.results = rv) (hn : args.length ≤ k)
    (h : cwp ⟨P, W0, nb⟩ k c (fun e s => match e with
      | .norm => ∃ s1, Gh bs.length s s1 ∧ ∃ rr m, resD P bs.length s1 rv.toList = some rr ∧ Wk rr r ∧ bs.length ≤ m ∧ m ≤ s1.hp.length ∧ bs' = s1.hp.take m ∧ (∀ i ∈ refsD r, i < m) ∧ (∀ b ∈ bs', ∀ i ∈ refsDs b, i < m) ∧ (isCell1 rv.toList = true → m = bs.length)
      | .ret => ∃ s1, Gh bs.length s s1 ∧ ∃ rr m, resD P bs.length s1 rv.toList = some rr ∧ Wk rr r ∧ bs.length ≤ m ∧ m ≤ s1.hp.length ∧ bs' = s1.hp.take m ∧ (∀ i ∈ refsD r, i < m) ∧ (∀ b ∈ bs', ∀ i ∈ refsDs b, i < m) ∧ (isCell1 rv.toList = true → m = bs.length)
      | _ => False) ⟨ini args, bs⟩) : DCalls ⟨P, W0, nb⟩ f args bs r bs' := by
  subst hk; subst hr
  refine dcalls_of_body hf hb hname hn ?_
  rw [ini_eq]
  refine dwp_mono _ (fun e s h => ?_) (cwp_to c h)
  cases e <;> first | exact ⟨trivial, h⟩ | exact h.elim
theorem put_upd (s : St) (d : Nat) (v : DV) : s.put (some d) v = ⟨upd s.tm d v, s.hp⟩ := rfl
theorem put_none (s : St) (v : DV) : s.put none v = s := rfl
theorem kills_nil (s : St) : s.kills [] = s := by simp [St.kills]
theorem kills_cons (s : St) (t : Nat) (ts : List Nat) : s.kills (t :: ts) = (s.kills ts).put (some t) .un := by
  simp only [St.kills, St.put, St.mk.injEq, and_true]
  funext i
  by_cases h : i = t
  · subst h; simp
  · simp [h]
end Go.Proofs.Dm

set_option linter.unusedVariables false
set_option linter.unusedSimpArgs false
namespace Go.Proofs.Dm
open Go Go.RowKit
def BindGoal (o : Option St) (k : St → Prop) : Prop := match o with
  | some s => k s
  | none => False
def TestGoal (d : Option DV) (a b : St → Prop) (s : St) : Prop := match d with
  | some (.p (.bool t)) => IfGoal t a b s
  | _ => False
def GuardGoal (d : Option DV) (want : Bool) (a b : St → Prop) (s : St) : Prop := match d with
  | some (.p (.bool t)) => IfGoal (t == want) a b s
  | some .ud => b s
  | _ => False
def PrepGoal (C : Ctx) (p : Option (FuncId × List DV × List Nat × List (List DV) × List Tmp)) (k : St → Prop) (s : St) (dst : Option Tmp) : Prop := match p with
  | some (f, a, ids, sub, gone) => CallGoal C f a sub k s dst gone ids
  | none => False
def callV : Op → Option (Operand × List Operand)
  | .call c => match c.callee with
    | .value x => some (x, c.args.toList)
    | _ => none
  | _ => none
def WayGoal (C : Ctx) (n : Nat) (tk : Bool) (o : Oper) (k : St → Prop) (s : St) (w : Option (Operand × List Operand)) : Prop := match w with
  | some (x, as) => PrepGoal C (callPrep s x as) k s o.dst
  | none => BindGoal (stepD C.P n tk o s) k
def guardV (ops : List Oper) (j : Nat) (s : St) : Option DV := ((ops[j]?).bind (·.dst)).map s.tm
def SeqK (K : St → Prop) (Q : DX → St → Prop) : DX → St → Prop := fun e s => match e with
  | .norm => K s
  | e => Q e s
def BlockK (id : Nat) (Q : DX → St → Prop) : DX → St → Prop := fun e s => match e with
  | .exit j => if j = id then Q .norm s else Q (.exit j) s
  | e => Q e s
def LoopK (I : Nat → St → Prop) (k0 m : Nat) (Q : DX → St → Prop) : DX → St → Prop := fun e s => match e with
  | .norm => RoundEnd I k0 m s
  | e => Q e s
def LoopGoal (C : Ctx) (n : Nat) (c : Code) (Q : DX → St → Prop) (s0 : St) : Prop := ∃ (I : Nat → St → Prop) (m : Nat), Start I m s0 ∧ ∀ m s, I m s → cwp C n c (LoopK I s0.hp.length m Q) s
def EndGoal (P : Program) (n0 : Nat) (rv : List ResultVar) (r : DV) (bs' : List (List DV)) (s0 : St) : Prop :=
  ∃ s, Gh n0 s0 s ∧ ∃ rr m, resD P n0 s rv = some rr ∧ Wk rr r ∧ n0 ≤ m ∧ m ≤ s.hp.length ∧ bs' = s.hp.take m ∧ (∀ i ∈ refsD r, i < m) ∧ (∀ b ∈ bs', ∀ i ∈ refsDs b, i < m) ∧ (isCell1 rv = true → m = n0)
def EndK (P : Program) (n0 : Nat) (rv : List ResultVar) (r : DV) (bs' : List (List DV)) : DX → St → Prop := fun e s => match e with
  | .norm => EndGoal P n0 rv r bs' s
  | .ret => EndGoal P n0 rv r bs' s
  | _ => False
@[congr] theorem cwp_congr {C n c Q s s'} (h : s = s') : cwp C n c Q s = cwp C n c Q s' := by rw [h]
@[congr] theorem opsWp_congr {C n a b k s s'} (h : s = s') : opsWp C n a b k s = opsWp C n a b k s' := by rw [h]
@[congr] theorem opWp_congr {C n a b k s s'} (h : s = s') : opWp C n a b k s = opWp C n a b k s' := by rw [h]
@[congr] theorem opsLab_congr {C n a b c k s s'} (h : s = s') : opsLab C n a b c k s = opsLab C n a b c k s' := by rw [h]
@[congr] theorem drawWp_congr {C n a k s s'} (h : s = s') : drawWp C n a k s = drawWp C n a k s' := by rw [h]
@[congr] theorem IfGoal_congr {t t' : Bool} {a b s s'} (h : t = t') (hs : s = s') : IfGoal t a b s = IfGoal t' a b s' := by rw [h, hs]
@[congr] theorem TestGoal_congr {t t' : Option DV} {a b s s'} (h : t = t') (hs : s = s') : TestGoal t a b s = TestGoal t' a b s' := by rw [h, hs]
@[congr] theorem GuardGoal_congr {t t' : Option DV} {w a b s s'} (h : t = t') (hs : s = s') : GuardGoal t w a b s = GuardGoal t' w a b s' := by rw [h, hs]
@[congr] theorem BindGoal_congr {t t' : Option St} {a} (h : t = t') : BindGoal t a = BindGoal t' a := by rw [h]
@[congr] theorem PrepGoal_congr {C t t' a s s' d} (h : t = t') (hs : s = s') : PrepGoal C t a s d = PrepGoal C t' a s' d := by rw [h, hs]
@[congr] theorem WayGoal_congr {C n tk o k s s' w w'} (h : s = s') (hw : w = w') : WayGoal C n tk o k s w = WayGoal C n tk o k s' w' := by rw [h, hw]
@[congr] theorem CallGoal_congr {C f a a' b b' k s s' dst gone gone' ids ids'} (ha : a = a') (hb : b = b') (h : s = s') (hg : gone = gone') (hi : ids = ids') : CallGoal C f a b k s dst gone ids = CallGoal C f a' b' k s' dst gone' ids' := by rw [ha, hb, h, hg, hi]
@[congr] theorem LabGoal_congr {ps ls m k labs s s'} (h : s = s') : LabGoal ps ls m k labs s = LabGoal ps ls m k labs s' := by rw [h]
@[congr] theorem LabGoal2_congr {ps ls m k labs s s'} (h : s = s') : LabGoal2 ps ls m k labs s = LabGoal2 ps ls m k labs s' := by rw [h]
@[congr] theorem LoopGoal_congr {C n c Q s s'} (h : s = s') : LoopGoal C n c Q s = LoopGoal C n c Q s' := by rw [h]
@[congr] theorem EndGoal_congr {P n0 rv r bs' s s'} (h : s = s') : EndGoal P n0 rv r bs' s = EndGoal P n0 rv r bs' s' := by rw [h]
@[congr] theorem takes_congr {ops o} : takes ops o = takes ops o := rfl
@[congr] theorem stepD_congr {P n tk o s s'} (h : s = s') : stepD P n tk o s = stepD P n tk o s' := by rw [h]
@[congr] theorem guardV_congr {ops j s s'} (h : s = s') : guardV ops j s = guardV ops j s' := by rw [h]
@[congr] theorem SeqK_congr {K Q e e' s s'} (he : e = e') (h : s = s') : SeqK K Q e s = SeqK K Q e' s' := by rw [h, he]
@[congr] theorem BlockK_congr {i Q e e' s s'} (he : e = e') (h : s = s') : BlockK i Q e s = BlockK i Q e' s' := by rw [h, he]
@[congr] theorem LoopK_congr {I k0 m Q e e' s s'} (he : e = e') (h : s = s') : LoopK I k0 m Q e s = LoopK I k0 m Q e' s' := by rw [h, he]
@[congr] theorem RoundEnd_congr {I k0 m s s'} (h : s = s') : RoundEnd I k0 m s = RoundEnd I k0 m s' := by rw [h]
theorem RoundEnd.same {I : Nat → St → Prop} {k0 m : Nat} {s : St} (m' : Nat) (h1 : m' < m) (h2 : I m' s) : RoundEnd I k0 m s := ⟨m', s, h1, Gh.refl _ _, h2⟩
theorem RoundEnd.drop {I : Nat → St → Prop} {k0 m : Nat} {s : St} (m' : Nat) (h1 : m' < m) (k : Nat) (h3 : k0 ≤ k) (h4 : k ≤ s.hp.length) (h5 : ((s.hp.take k).all fun b => (refsDs b).all (· < k)) = true) (h2 : I m' (dropSt k s)) : RoundEnd I k0 m s :=
  ⟨m', _, h1, Gh.drop k h3 h4 h5, h2⟩
theorem RoundEnd.by {I : Nat → St → Prop} {k0 m : Nat} {s s' : St} (m' : Nat) (h1 : m' < m) (g : Gh k0 s s') (h2 : I m' s') : RoundEnd I k0 m s := ⟨m', s', h1, g, h2⟩
@[congr] theorem EndK_congr {P n0 rv r bs' e e' s s'} (he : e = e') (h : s = s') : EndK P n0 rv r bs' e s = EndK P n0 rv r bs' e' s' := by rw [h, he]
@[simp] theorem BindGoal_some {s k} : BindGoal (some s) k = k s := rfl
@[simp] theorem BindGoal_none {k} : BindGoal none k = False := rfl
@[simp] theorem TestGoal_bool {t a b s} : TestGoal (some (.p (.bool t))) a b s = IfGoal t a b s := rfl
@[simp] theorem GuardGoal_t {t a b s} : GuardGoal (some (.p (.bool t))) true a b s = IfGoal t a b s := by cases t <;> rfl
@[simp] theorem GuardGoal_f {t a b s} : GuardGoal (some (.p (.bool t))) false a b s = IfGoal t b a s := by cases t <;> rfl
@[simp] theorem GuardGoal_ud {w a b s} : GuardGoal (some .ud) w a b s = b s := rfl
@[simp] theorem PrepGoal_some {C f a ids sub gone k s dst} : PrepGoal C (some (f, a, ids, sub, gone)) k s dst = CallGoal C f a sub k s dst gone ids := rfl
@[simp] theorem PrepGoal_none {C k s dst} : PrepGoal C none k s dst = False := rfl
@[simp] theorem WayGoal_some {C n tk o k s x as} : WayGoal C n tk o k s (some (x, as)) = PrepGoal C (callPrep s x as) k s o.dst := rfl
@[simp] theorem WayGoal_none {C n tk o k s} : WayGoal C n tk o k s none = BindGoal (stepD C.P n tk o s) k := rfl
theorem IfGoal_not (t : Bool) (a b : St → Prop) (s : St) : IfGoal (!t) a b s = IfGoal t b a s := by cases t <;> simp [IfGoal]
@[simp] theorem SeqK_norm {K Q s} : SeqK K Q .norm s = K s := rfl
@[simp] theorem SeqK_exit {K Q s i} : SeqK K Q (.exit i) s = Q (.exit i) s := rfl
@[simp] theorem SeqK_goto {K Q s i} : SeqK K Q (.goto i) s = Q (.goto i) s := rfl
@[simp] theorem SeqK_ret {K Q s} : SeqK K Q .ret s = Q .ret s := rfl
@[simp] theorem BlockK_norm {i Q s} : BlockK i Q .norm s = Q .norm s := rfl
@[simp] theorem BlockK_exit {i j Q s} : BlockK i Q (.exit j) s = if j = i then Q .norm s else Q (.exit j) s := rfl
@[simp] theorem BlockK_goto {i j Q s} : BlockK i Q (.goto j) s = Q (.goto j) s := rfl
@[simp] theorem BlockK_ret {i Q s} : BlockK i Q .ret s = Q .ret s := rfl
@[simp] theorem LoopK_norm {I k0 m Q s} : LoopK I k0 m Q .norm s = RoundEnd I k0 m s := rfl
@[simp] theorem LoopK_exit {I k0 m j Q s} : LoopK I k0 m Q (.exit j) s = Q (.exit j) s := rfl
@[simp] theorem LoopK_ret {I k0 m Q s} : LoopK I k0 m Q .ret s = Q .ret s := rfl
@[simp] theorem EndK_norm {P n0 rv r bs' s} : EndK P n0 rv r bs' .norm s = EndGoal P n0 rv r bs' s := rfl
@[simp] theorem EndK_ret {P n0 rv r bs' s} : EndK P n0 rv r bs' .ret s = EndGoal P n0 rv r bs' s := rfl
@[simp ↓] theorem cwp_skip {C n Q s} : cwp C n .skip Q s = Q .norm s := rfl
@[simp ↓] theorem cwp_label {C n l Q s} : cwp C n (.label l) Q s = Q .norm s := rfl
@[simp ↓] theorem cwp_region {C n i ops Q s} : cwp C n (.region i ⟨ops⟩ false) Q s = opsWp C n ops ops (Q .norm) s := rfl
@[simp ↓] theorem cwp_draw {C n i ops Q s} : cwp C n (.region i ⟨ops⟩ true) Q s = drawWp C n ops (Q .norm) s := rfl
@[simp ↓] theorem cwp_seq {C n a b Q s} : cwp C n (.seq a b) Q s = cwp C n a (SeqK (cwp C n b Q) Q) s := rfl
@[simp ↓] theorem cwp_cond {C n c a b Q s} : cwp C n (.cond c a b) Q s = TestGoal (evalD s c) (cwp C n a Q) (cwp C n b Q) s := rfl
@[simp ↓] theorem cwp_block {C n i c Q s} : cwp C n (.block i c) Q s = cwp C n c (BlockK i Q) s := rfl
@[simp ↓] theorem cwp_loop {C n c Q s} : cwp C n (.loop c) Q s = LoopGoal C n c Q s := rfl
@[simp ↓] theorem cwp_exit {C n i Q s} : cwp C n (.exit i) Q s = Q (.exit i) s := rfl
@[simp ↓] theorem cwp_goto {C n i Q s} : cwp C n (.goto i) Q s = Q (.goto i) s := rfl
@[simp ↓] theorem cwp_ret {C n Q s} : cwp C n .ret Q s = Q .ret s := rfl
@[simp ↓] theorem opsWp_nil {C n ops k s} : opsWp C n ops [] k s = k s := by simp only [opsWp]
theorem opWp_eq {C n tk o k s} : opWp C n tk o k s = WayGoal C n tk o k s (callV o.op) := by
  unfold opWp
  cases h : o.op with
  | call c =>
    dsimp only [callV]
    cases h2 : c.callee with
    | value x =>
      dsimp only [WayGoal, PrepGoal]
      cases callPrep s x c.args.toList with
      | none => rfl
      | some p => rfl
    | _ => dsimp only [WayGoal, BindGoal]; cases stepD C.P n tk o s <;> rfl
  | _ => dsimp only [callV, WayGoal, BindGoal]; cases stepD C.P n tk o s <;> rfl
@[simp ↓] theorem opsWp_plain {C n ops dst op ty pos after rest k s} : opsWp C n ops (⟨dst, op, ty, pos, after, none⟩ :: rest) k s = (dstOk n dst = true ∧ WayGoal C n (takes ops ⟨dst, op, ty, pos, after, none⟩) ⟨dst, op, ty, pos, after, none⟩ (opsWp C n ops rest k) s (callV op)) := by
  simp only [opsWp, opWp_eq]
@[simp ↓] theorem opsLab_plain {C n ops dst op ty pos after rest acc k s} : opsLab C n ops (⟨dst, op, ty, pos, after, none⟩ :: rest) acc k s = (dstOk n dst = true ∧ WayGoal C n (takes ops ⟨dst, op, ty, pos, after, none⟩) ⟨dst, op, ty, pos, after, none⟩ (opsLab C n ops rest (acc ++ [labD C.P ops ⟨dst, op, ty, pos, after, none⟩ s]) k) s (callV op)) := by
  simp only [opsLab, opWp_eq]
@[simp ↓] theorem opsLab_nil {C n ops acc k s} : opsLab C n ops [] acc k s = k acc s := by simp only [opsLab]
def NotGoal (K : St → Prop) (d : Option Tmp) : St → Prop := fun s => K (s.put d .ud)
def DoGoal (C : Ctx) (n : Nat) (tk : Bool) (o : Oper) (k : St → Prop) : St → Prop := fun s => WayGoal C n tk o k s (callV o.op)
@[simp ↓] theorem opsWp_g {C n ops dst op ty pos after rest k s j want} : opsWp C n ops (⟨dst, op, ty, pos, after, some (j, want)⟩ :: rest) k s =
    (dstOk n dst = true ∧ GuardGoal (guardV ops j s) want (DoGoal C n (takes ops ⟨dst, op, ty, pos, after, some (j, want)⟩) ⟨dst, op, ty, pos, after, some (j, want)⟩ (opsWp C n ops rest k)) (NotGoal (opsWp C n ops rest k) dst) s) := by
  simp only [opsWp, guardV]
  cases h : ops[j]? with
  | none => simp [GuardGoal]
  | some q =>
    cases hq : q.dst with
    | none => simp [GuardGoal, hq]
    | some t =>
      simp only [Option.bind_some, hq, Option.map_some]
      cases ht : s.tm t <;> try (simp [GuardGoal, NotGoal]; done)
      rename_i x
      cases x <;> simp [GuardGoal, DoGoal, NotGoal, opWp_eq, IfGoal]
@[simp ↓] theorem opsLab_g {C n ops dst op ty pos after rest acc k s j want} : opsLab C n ops (⟨dst, op, ty, pos, after, some (j, want)⟩ :: rest) acc k s =
    (dstOk n dst = true ∧ GuardGoal (guardV ops j s) want (DoGoal C n (takes ops ⟨dst, op, ty, pos, after, some (j, want)⟩) ⟨dst, op, ty, pos, after, some (j, want)⟩ (opsLab C n ops rest (acc ++ [labD C.P ops ⟨dst, op, ty, pos, after, some (j, want)⟩ s]) k)) (NotGoal (opsLab C n ops rest (acc ++ [labD C.P ops ⟨dst, op, ty, pos, after, some (j, want)⟩ s]) k) dst) s) := by
  simp only [opsLab, guardV]
  cases h : ops[j]? with
  | none => simp [GuardGoal]
  | some q =>
    cases hq : q.dst with
    | none => simp [GuardGoal, hq]
    | some t =>
      simp only [Option.bind_some, hq, Option.map_some]
      cases ht : s.tm t <;> try (simp [GuardGoal, NotGoal]; done)
      rename_i x
      cases x <;> simp [GuardGoal, DoGoal, NotGoal, opWp_eq, IfGoal]
@[congr] theorem NotGoal_congr {K d s s'} (h : s = s') : NotGoal K d s = NotGoal K d s' := by rw [h]
@[congr] theorem DoGoal_congr {C n tk o k s s'} (h : s = s') : DoGoal C n tk o k s = DoGoal C n tk o k s' := by rw [h]
@[simp] theorem NotGoal_eq {K d s} : NotGoal K d s = K (s.put d .ud) := rfl
@[simp] theorem DoGoal_eq {C n tk o k s} : DoGoal C n tk o k s = WayGoal C n tk o k s (callV o.op) := rfl
@[simp] theorem LabGoal_nil {m k labs s} : LabGoal [] [] m k labs s = k s := by simp [LabGoal, pairsOK, lowOK, allLt]
theorem Wks.same : ∀ (ds : List DV), Wks ds ds
  | [] => .nil
  | d :: ds => .cons (.refl d) (Wks.same ds)
theorem CallGoal.same {C : Ctx} {f : FuncId} {a : List DV} {sub : List (List DV)} {k : St → Prop} {s : St} {dst : Option Tmp} {gone : List Tmp} {ids : List Nat} {r bs'}
    (hd : DCalls C f a sub r bs') (hk : k (afterCall s dst gone ids r bs')) : CallGoal C f a sub k s dst gone ids := .intro hd (Wks.same a) hk
theorem IfGoal.mono {t a b a' b' s} (h : IfGoal t a b s) (h1 : a s → a' s) (h2 : b s → b' s) : IfGoal t a' b' s := by
  cases t
  · rw [IfGoal_false] at h ⊢; exact h2 h
  · rw [IfGoal_true] at h ⊢; exact h1 h
theorem opWp_mono {C n tk o} {k k' : St → Prop} {s : St} (hk : ∀ s, k s → k' s) (h : opWp C n tk o k s) : opWp C n tk o k' s := by
  rw [opWp_eq] at h ⊢
  unfold WayGoal at h ⊢
  split at h
  · unfold PrepGoal at h ⊢
    split at h
    · obtain ⟨args, r, bs', h1, h2, h3⟩ := h
      exact ⟨args, r, bs', h1, h2, hk _ h3⟩
    · exact h
  · unfold BindGoal at h ⊢
    split at h
    · exact hk _ h
    · exact h
theorem opsWp_mono {C n ops} : ∀ {l : List Oper} {k k' : St → Prop} {s : St}, (∀ s, k s → k' s) → opsWp C n ops l k s → opsWp C n ops l k' s
  | [], k, k', s, hk, h => hk _ h
  | o :: rest, k, k', s, hk, h => by
    simp only [opsWp] at h ⊢
    split at h
    · exact ⟨h.1, opWp_mono (fun s q => opsWp_mono hk q) h.2⟩
    · split at h
      · split at h
        · exact ⟨h.1, h.2.mono (fun q => opWp_mono (fun s q => opsWp_mono hk q) q) (fun q => opsWp_mono hk q)⟩
        · exact ⟨h.1, opsWp_mono hk h.2⟩
        · exact h
      · exact h
theorem opsLab_mono {C n ops} : ∀ {l : List Oper} {acc : List Lab} {k k' : List Lab → St → Prop} {s : St}, (∀ a s, k a s → k' a s) → opsLab C n ops l acc k s → opsLab C n ops l acc k' s
  | [], acc, k, k', s, hk, h => hk _ _ h
  | o :: rest, acc, k, k', s, hk, h => by
    simp only [opsLab] at h ⊢
    split at h
    · exact ⟨h.1, opWp_mono (fun s q => opsLab_mono hk q) h.2⟩
    · split at h
      · split at h
        · exact ⟨h.1, h.2.mono (fun q => opWp_mono (fun s q => opsLab_mono hk q) q) (fun q => opsLab_mono hk q)⟩
        · exact ⟨h.1, opsLab_mono hk h.2⟩
        · exact h
      · exact h
theorem cwp_mono {C n} : ∀ (c : Code) {Q Q' : DX → St → Prop} {s : St}, (∀ e s, Q e s → Q' e s) → cwp C n c Q s → cwp C n c Q' s
  | .skip, Q, Q', s, q, e => q _ _ e
  | .label _, Q, Q', s, q, e => q _ _ e
  | .exit id, Q, Q', s, q, e => q _ _ e
  | .goto l, Q, Q', s, q, e => q _ _ e
  | .ret, Q, Q', s, q, e => q _ _ e
  | .region id ops draw, Q, Q', s, q, e => by
    simp only [cwp] at e ⊢
    split at e
    · rename_i hd
      rw [if_pos hd]
      exact ⟨e.1, e.2.1, e.2.2.imp (opsLab_mono fun a s h => ⟨h.1, h.2.1, q _ _ h.2.2⟩) (opsLab_mono fun a s h => ⟨h.1, h.2.1, h.2.2.1, q _ _ h.2.2.2⟩)⟩
    · rename_i hd
      rw [if_neg hd]
      exact opsWp_mono (q _) e
  | .seq c d, Q, Q', s, q, e => by
    simp only [cwp] at e ⊢
    refine cwp_mono c (fun x s' h => ?_) e
    cases x <;> first | exact cwp_mono d q h | exact q _ _ h
  | .cond c x y, Q, Q', s, q, e => by
    simp only [cwp] at e ⊢
    split at e
    · exact e.mono (cwp_mono x q) (cwp_mono y q)
    · exact e
  | .block id c, Q, Q', s, q, e => by
    simp only [cwp] at e ⊢
    refine cwp_mono c (fun x s' h => ?_) e
    cases x with
    | exit i =>
      dsimp only at h ⊢
      split
      · rename_i hi; rw [if_pos hi] at h; exact q _ _ h
      · rename_i hi; rw [if_neg hi] at h; exact q _ _ h
    | _ => exact q _ _ h
  | .loop c, Q, Q', s, q, e => by
    simp only [cwp] at e ⊢
    obtain ⟨I, m, h1, h2⟩ := e
    refine ⟨I, m, h1, fun m s hI => cwp_mono c (fun x s' h => ?_) (h2 m s hI)⟩
    cases x <;> first | exact h | exact q _ _ h
  | .rangeFunc _ _ _ _, Q, Q', s, q, e => by simp [cwp] at e
  | .scope _, Q, Q', s, q, e => by simp [cwp] at e
  | .refuse _, Q, Q', s, q, e => by simp [cwp] at e
theorem SeqK_mono {K K' : St → Prop} {Q : DX → St → Prop} (h : ∀ s, K s → K' s) : ∀ e s, SeqK K Q e s → SeqK K' Q e s := by
  intro e s q
  cases e <;> first | exact h _ q | exact q
theorem BlockK_mono {i : Nat} {Q Q' : DX → St → Prop} (h : ∀ e s, Q e s → Q' e s) : ∀ e s, BlockK i Q e s → BlockK i Q' e s := by
  intro e s q
  cases e with
  | exit j =>
    simp only [BlockK] at q ⊢
    split
    · rename_i hi; rw [if_pos hi] at q; exact h _ _ q
    · rename_i hi; rw [if_neg hi] at q; exact h _ _ q
  | _ => exact h _ _ q
theorem cwp_cut {C n a b Q s} (J : St → Prop) (h1 : cwp C n a (SeqK J Q) s) (h2 : ∀ s, J s → cwp C n b Q s) : cwp C n (.seq a b) Q s := by
  rw [cwp_seq]; exact cwp_mono a (SeqK_mono h2) h1
theorem LoopGoal.cut {C n c i Q s} {K : St → Prop} (J : St → Prop) (h1 : LoopGoal C n c (BlockK i (SeqK J Q)) s) (h2 : ∀ s, J s → K s) : LoopGoal C n c (BlockK i (SeqK K Q)) s := by
  obtain ⟨I, m, g1, g2⟩ := h1
  refine ⟨I, m, g1, fun m s hI => cwp_mono c (fun e s' q => ?_) (g2 m s hI)⟩
  cases e with
  | norm => exact q
  | exit j => exact (BlockK_mono (SeqK_mono h2) (.exit j) s' q : BlockK i (SeqK K Q) (.exit j) s')
  | goto j => exact (BlockK_mono (SeqK_mono h2) (.goto j) s' q : BlockK i (SeqK K Q) (.goto j) s')
  | ret => exact (BlockK_mono (SeqK_mono h2) .ret s' q : BlockK i (SeqK K Q) .ret s')
theorem IfGoal.cut {C n a b Q s} {t : Bool} {K : St → Prop} (J : St → Prop) (h1 : IfGoal t (cwp C n a (SeqK J Q)) (cwp C n b (SeqK J Q)) s) (h2 : ∀ s, J s → K s) : IfGoal t (cwp C n a (SeqK K Q)) (cwp C n b (SeqK K Q)) s :=
  h1.mono (cwp_mono a (SeqK_mono h2)) (cwp_mono b (SeqK_mono h2))
theorem cwp_eqv {C n c Q Q' s} (h : ∀ e s, Q e s ↔ Q' e s) : cwp C n c Q s → cwp C n c Q' s := by
  have : Q = Q' := by funext e s; exact propext (h e s)
  rw [this]; exact id
theorem EndGoal.keep {P n0 rv r bs' s rr} (h1 : resD P n0 s rv = some rr) (h2 : Wk rr r) (h3 : n0 ≤ s.hp.length) (h4 : bs' = s.hp.take n0) (h5 : (refsD r).all (· < n0) = true) (h6 : (bs'.all fun b => (refsDs b).all (· < n0)) = true) : EndGoal P n0 rv r bs' s :=
  ⟨s, Gh.refl _ _, rr, n0, h1, h2, Nat.le_refl _, h3, h4, by simpa using h5, by simpa using h6, fun _ => rfl⟩
theorem EndGoal.by {P n0 rv r bs' s s'} (g : Gh n0 s s') (h : EndGoal P n0 rv r bs' s') : EndGoal P n0 rv r bs' s := by
  obtain ⟨s2, g2, h⟩ := h
  exact ⟨s2, g.trans g2, h⟩
theorem EndGoal.all {P n0 rv r bs' s rr} (h1 : resD P n0 s rv = some rr) (h2 : Wk rr r) (h3 : n0 ≤ s.hp.length) (h4 : bs' = s.hp) (h5 : (refsD r).all (· < s.hp.length) = true) (h6 : (bs'.all fun b => (refsDs b).all (· < s.hp.length)) = true) (h7 : isCell1 rv = false) : EndGoal P n0 rv r bs' s :=
  ⟨s, Gh.refl _ _, rr, s.hp.length, h1, h2, h3, Nat.le_refl _, by simpa using h4, by simpa using h5, by simpa using h6, fun h => by rw [h7] at h; cases h⟩
theorem dcalls_end {P : Program} {W0 : World} {nb : Nat} {f : FuncId} {fn : Func} {c : Code} (hf : P.funcs[f]? = some fn) (hb : fn.body = some c) (hname : (fn.name == "runtime.NumGoroutine") = false) {args : List DV} {bs : List (List DV)} {r : DV} {bs' : List (List DV)}
    (k : Nat) (hk : fn.ntmps = k) (rv : Array ResultVar) (hr : fn.results = rv) (hn : args.length ≤ k)
    (h : cwp ⟨P, W0, nb⟩ k c (EndK P bs.length rv.toList r bs') ⟨ini args, bs⟩) : DCalls ⟨P, W0, nb⟩ f args bs r bs' := by
  refine dcalls_body hf hb hname k hk rv hr hn (cwp_eqv (fun e s => ?_) h)
  cases e <;> exact Iff.rfl
attribute [simp] lenOf ownD eqDs coerT zeroCellsT nilK makeSliceD appendA appendB copyD clearD solids solid srcC needA flatArg nilC argBoxes slice3D killB maxLen guardV callV dstOk stepD moveD allocD boxD patchB loadD storeD buildD buildSliceD appendD appBase appMore appMoreT fillD rowsD pds pureD callD lenD elems sliceD optInt convD mapD evalD constD constC constCs coerD coerCells hasOwn hasOwns binD intD strD asVal flat solid solids deown zeroCells put_upd put_none upd_same upd_ne fz fzs ini resD oneD manyD isCell1 refsD refsDs calleeD argsD subHp reach boxRefs addNew closedIn mapRef mapRefs afterCall writeBack given kills_nil kills_cons backId idxIn callPrep callPrep2 nodupB IfGoal_true IfGoal_false IfGoal_not
attribute [simp] pairsOK pairsOK2 compatAdd compatCA compatSt stoB callB adB compatDyn lowOK allLt labD skips guardD looksG guardSlot looksD goneD eatsT eats goneL rdD wrD simpleD anyOwn disj ldD ldOK mvD
theorem EndGoal.kk {P n0 rv r bs' s} (h1 : resD P n0 s rv = some r := by simp) (h3 : n0 ≤ s.hp.length := by simp) (h4 : bs' = s.hp.take n0 := by simp) (h5 : (refsD r).all (· < n0) = true := by simp) (h6 : (bs'.all fun b => (refsDs b).all (· < n0)) = true := by simp) : EndGoal P n0 rv r bs' s := .keep h1 (.refl _) h3 h4 h5 h6
end Go.Proofs.Dm
