/- The D-machine, part R: a statement whose order is open. -/
import Derived.Test.YtcacihiiilemgaaDmQ
set_option linter.unusedVariables false
set_option linter.unusedSimpArgs false
namespace Go.Proofs.Dm
open Go Go.RowKit

theorem put_is_mu {s : St} {d : Nat} {v : DV} : s.put (some d) v = mu d v none s := rfl

theorem fillD_congr {s t : St} {pl : List (Nat × Nat)} : ∀ {parts : List (Nat × Operand)} {cells k}, (∀ p ∈ parts, evalD t p.2 = evalD s p.2) → fillD t pl parts cells k = fillD s pl parts cells k
  | [], cells, k, h => rfl
  | (i, x) :: rest, cells, k, h => by
    simp only [fillD, h (i, x) (by simp)]
    have ih := fun c k => fillD_congr (s := s) (t := t) (pl := pl) (parts := rest) (cells := c) (k := k) (fun p hp => h p (by simp [hp]))
    simp only [ih]
theorem rowsD_congr {P : Program} {s t : St} {e z} : ∀ {parts : List (Nat × Operand)} {k}, (∀ p ∈ parts, evalD t p.2 = evalD s p.2) → rowsD P t e z k parts = rowsD P s e z k parts
  | [], k, h => rfl
  | (i, x) :: rest, k, h => by
    simp only [rowsD, h (i, x) (by simp), rowsD_congr (parts := rest) (fun p hp => h p (by simp [hp]))]

/-- What a step does that only fills its slot (and perhaps takes out of a box), it does wherever it sees the same. -/
theorem stepD_simple {P : Program} {n : Nat} {tk : Bool} {o : Oper} {s s1 : St} {dx : Nat} (e : stepD P n tk o s = some s1) (hs : simpleD tk o s = true) (hdx : o.dst = some dx) :
    ∃ v ib, s1 = mu dx v ib s ∧ (∀ j b, ib = some (j, b) → j ∈ wrD P tk o s ∧ j < s.hp.length) ∧ (∀ i ∈ rdD o s, i < s.hp.length) ∧
      ∀ t : St, (∀ x ∈ o.op.operands.toList, evalD t x = evalD s x) → (∀ i ∈ rdD o s, t.hp[i]? = s.hp[i]?) → stepD P n tk o t = some (mu dx v ib t) := by
  have done : ∀ v, rdD o s = [] → s1 = s.put o.dst v → (∀ t : St, (∀ x ∈ o.op.operands.toList, evalD t x = evalD s x) → stepD P n tk o t = some (t.put o.dst v)) →
      ∃ v ib, s1 = mu dx v ib s ∧ (∀ j b, ib = some (j, b) → j ∈ wrD P tk o s ∧ j < s.hp.length) ∧ (∀ i ∈ rdD o s, i < s.hp.length) ∧
      ∀ t : St, (∀ x ∈ o.op.operands.toList, evalD t x = evalD s x) → (∀ i ∈ rdD o s, t.hp[i]? = s.hp[i]?) → stepD P n tk o t = some (mu dx v ib t) := by
    intro v hrd h1 h2
    refine ⟨v, none, by rw [h1, hdx]; rfl, fun j b h => (by cases h), by rw [hrd]; simp, fun t ht _ => ?_⟩
    rw [h2 t ht, hdx]; rfl
  have e0 := e
  unfold stepD at e
  split at e
  · rename_i hdst
    have mv : ∀ tk' x, x ∈ o.op.operands.toList → rdD o s = [] → (tk' = false ∨ anyOwn s (looksD o) = false) → (∀ t : St, stepD P n tk o t = moveD P tk' o x t) → moveD P tk' o x s = some s1 →
        ∃ v ib, s1 = mu dx v ib s ∧ (∀ j b, ib = some (j, b) → j ∈ wrD P tk o s ∧ j < s.hp.length) ∧ (∀ i ∈ rdD o s, i < s.hp.length) ∧
        ∀ t : St, (∀ x ∈ o.op.operands.toList, evalD t x = evalD s x) → (∀ i ∈ rdD o s, t.hp[i]? = s.hp[i]?) → stepD P n tk o t = some (mu dx v ib t) := by
      intro tk' x hx hrd hno hst e
      unfold moveD at e
      split at e
      · rename_i u
        have hut : ∀ t : St, (∀ x ∈ o.op.operands.toList, evalD t x = evalD s x) → t.tm u = s.tm u := fun t ht => by have := ht _ hx; simpa only [evalD, Option.some.injEq] using this
        cases hu : hasOwn (s.tm u) with
        | false =>
          rw [hu] at e
          simp only [Bool.false_eq_true, if_false, Option.some.injEq] at e
          refine done _ hrd e.symm fun t ht => ?_
          rw [hst t]
          simp only [moveD, hut t ht, hu, Bool.false_eq_true, if_false]
        | true =>
          have htk : tk' = false := by
            rcases hno with q | q
            · exact q
            · have := anyOwn_false q u (mem_looks.2 hx)
              rw [hu] at this; cases this
          subst htk
          rw [hu] at e
          simp only [Bool.false_eq_true, if_false, if_true, Option.some.injEq] at e
          refine done _ hrd e.symm fun t ht => ?_
          rw [hst t]
          simp only [moveD, hut t ht, hu, Bool.false_eq_true, if_false, if_true]
      · rename_i hnt
        split at e
        · rename_i d hev
          injection e with e
          refine done _ hrd e.symm fun t ht => ?_
          rw [hst t]
          have := ht x hx
          unfold moveD
          split
          · rename_i u; exact absurd rfl (hnt u)
          · rw [this, hev]
        · cases e
    split at e
    · rename_i x hop
      exact mv tk x (by rw [hop]; simp [Op.operands]) (by simp [rdD, hop]) (by cases tk <;> simp_all [simpleD]) (fun t => by simp [stepD, hdst, hop]) e
    · rename_i x hop
      exact mv true x (by rw [hop]; simp [Op.operands]) (by simp [rdD, hop]) (.inr (by simpa [simpleD, hop] using hs)) (fun t => by simp [stepD, hdst, hop]) e
    · rename_i t hop; simp [simpleD, hop] at hs
    · rename_i t x hop; simp [simpleD, hop] at hs
    · rename_i ty x hop
      have hxm : x ∈ o.op.operands.toList := by rw [hop]; simp [Op.operands]
      have hst : ∀ t : St, stepD P n tk o t = loadD P tk o ty x t := fun t => by simp [stepD, hdst, hop]
      unfold loadD at e
      split at e
      · rename_i z g h1 h2
        split at e
        · rename_i id off h3
          have hrd : rdD o s = [id] := by simp [rdD, hop, h3]
          split at e
          · rename_i box h4
            have hlt : id < s.hp.length := (List.getElem?_eq_some_iff.1 h4).1
            split at e
            · rename_i h5
              split at e
              · rename_i h6
                split at e
                · rename_i d u h7 h8
                  injection e with e
                  rw [hdx] at h7; injection h7 with h7; subst h7
                  refine ⟨u, some (id, _), e.symm, fun j b h => ?_, by rw [hrd]; simpa using hlt, fun t ht hh => ?_⟩
                  · injection h with h; injection h with h _; subst h
                    exact ⟨by simp only [wrD, hop, h3, h1, h4]; rw [if_pos h6]; simp, hlt⟩
                  · rw [hst t]
                    have q1 := ht x hxm
                    have q2 := hh id (by rw [hrd]; simp)
                    simp only [loadD, h1, h2, q1, h3, q2, h4, if_pos h5, if_pos h6, hdx, h8]
                    rfl
                · cases e
              · rename_i h6
                obtain ⟨u, h7, h8⟩ := Option.map_eq_some_iff.1 e
                refine ⟨u, none, by rw [← h8, hdx]; rfl, fun j b h => (by cases h), by rw [hrd]; simpa using hlt, fun t ht hh => ?_⟩
                rw [hst t]
                have q1 := ht x hxm
                have q2 := hh id (by rw [hrd]; simp)
                simp only [loadD, h1, h2, q1, h3, q2, h4, if_pos h5, if_neg h6, h7, Option.map_some, hdx]
                rfl
            · cases e
          · cases e
        · rename_i cs h3
          split at e
          · rename_i h5
            obtain ⟨u, h7, h8⟩ := Option.map_eq_some_iff.1 e
            refine done u (by simp [rdD, hop, h3]) h8.symm fun t ht => ?_
            rw [hst t]
            have q1 := ht x hxm
            simp only [loadD, h1, h2, q1, h3, if_pos h5, h7, Option.map_some]
          · cases e
        · cases e
      · cases e
    · rename_i t x y hop; simp [simpleD, hop] at hs
    · rename_i ty parts hop
      have hno : anyOwn s (looksD o) = false := by simpa [simpleD, hop] using hs
      have hpm : ∀ p ∈ parts.toList, p.2 ∈ o.op.operands.toList := fun p hp => by rw [hop]; simp only [Op.operands, List.toList_toArray, List.mem_map]; exact ⟨p, hp, rfl⟩
      unfold buildD at e
      split at e
      · rename_i d pl zc h1 h2 h3
        split at e
        · rename_i cells h4
          injection e with e
          rw [← h1] at e
          refine done _ (by simp [rdD, hop]) e.symm fun t ht => ?_
          have hst : stepD P n tk o t = buildD P o ty parts.toList t := by simp [stepD, hdst, hop]
          rw [hst]
          simp only [buildD, h1, h2, h3, fillD_congr (s := s) (t := t) (fun p hp => ht p.2 (hpm p hp)), h4]
        · rename_i cells ts off h4
          rcases stepD_keeps.fillD_owner _ _ _ _ _ _ h4 with q | ⟨i, q1, q2⟩
          · cases q
          · rw [anyOwn_false hno ts (mem_looks.2 (hpm _ q1))] at q2; cases q2
        · cases e
      · cases e
    · rename_i ty len parts hop
      have hpm : ∀ p ∈ parts.toList, p.2 ∈ o.op.operands.toList := fun p hp => by rw [hop]; simp only [Op.operands, List.toList_toArray, List.mem_map]; exact ⟨p, hp, rfl⟩
      unfold buildSliceD at e
      split at e
      · rename_i el d h1 h2
        split at e
        · rename_i z zv h3 h4
          split at e
          · rename_i rows h5
            split at e
            · rename_i h6
              injection e with e
              rw [← h2] at e
              refine done _ (by simp [rdD, hop]) e.symm fun t ht => ?_
              have hst : stepD P n tk o t = buildSliceD P o ty len parts.toList t := by simp [stepD, hdst, hop]
              rw [hst]
              simp only [buildSliceD, h1, h2, h3, h4, rowsD_congr (s := s) (t := t) (fun p hp => ht p.2 (hpm p hp)), h5, if_pos h6]
            · cases e
          · cases e
        · cases e
      · cases e
    · rename_i t l c hop; simp [simpleD, hop] at hs
    · rename_i c hop
      split at e
      · rename_i hc; simp [simpleD, hop, hc] at hs
      · rename_i hc; simp [simpleD, hop, hc] at hs
      · rename_i hc hc2
        obtain ⟨d, h2, h3⟩ := Option.map_eq_some_iff.1 e
        have hrd : rdD o s = [] := by
          simp only [rdD, hop]
          split
          · rename_i x hx; simp [simpleD, hop, hx] at hs
          · rename_i hx; exact absurd hx hc
          · rename_i hx; exact absurd hx hc2
          · rfl
        refine done d hrd h3.symm fun t ht => ?_
        have hst : stepD P n tk o t = (callD P (evalD t) c).map (t.put o.dst) := by
          simp only [stepD, hdst, if_true, hop]
        rw [hst, callD_congr (ev' := evalD s) (fun x hx => ht x (by rw [hop]; simpa only [Op.operands] using hx)), h2]
        rfl
    · rename_i n1 n2 n3 n4 n5 n6 n7 n8 n9 n10
      obtain ⟨d, h2, h3⟩ := Option.map_eq_some_iff.1 e
      have hrd : rdD o s = [] := by
        simp only [rdD]
      refine done d hrd h3.symm fun t ht => ?_
      have hst : stepD P n tk o t = (pureD P (evalD t) o.op).map (t.put o.dst) := by
        simp only [stepD, hdst, if_true]
      rw [hst, pureD_congr (ev' := evalD s) ht, h2]
      rfl
  · cases e

theorem simple_loc {C n ops o s s1} (e : gstep C n ops o s s1) (hs : (labD C.P ops o s).simple = true) :
    ∃ dx v ib, o.dst = some dx ∧ s1 = mu dx v ib s ∧ (∀ j b, ib = some (j, b) → j ∈ (labD C.P ops o s).wr ∧ j < s.hp.length) ∧ (∀ i ∈ (labD C.P ops o s).rd, i < s.hp.length) ∧
      ∀ t, Agree ops o (labD C.P ops o s).rd s t → gstep C n ops o t (mu dx v ib t) := by
  obtain ⟨g, h1, h2, h3⟩ := e
  cases g with
  | false =>
    have hsk : skips ops o s = true := by simp [skips, h1]
    simp only [labD, hsk, if_true] at hs ⊢
    simp only [Bool.false_eq_true, if_false] at h3
    obtain ⟨dx, hdx⟩ := Option.isSome_iff_exists.1 hs
    refine ⟨dx, .ud, none, hdx, by rw [h3, hdx]; rfl, fun j b h => (by cases h), by simp, fun t ha => ⟨false, by rw [agree_guard ha]; exact h1, h2, ?_⟩⟩
    simp only [Bool.false_eq_true, if_false, hdx]; rfl
  | true =>
    have hsk : skips ops o s = false := by simp [skips, h1]
    simp only [labD, hsk, Bool.false_eq_true, if_false, Bool.and_eq_true] at hs ⊢
    simp only [if_true] at h3
    obtain ⟨hd, hsd⟩ := hs
    obtain ⟨dx, hdx⟩ := Option.isSome_iff_exists.1 hd
    have hstep : stepD C.P n (takes ops o) o s = some s1 := by
      unfold opTo at h3
      split at h3
      · rename_i c hop
        split at h3
        · rename_i x hc; simp [simpleD, hop, hc] at hsd
        · exact h3
      · exact h3
    obtain ⟨v, ib, q1, q2, q3, q4⟩ := stepD_simple hstep hsd hdx
    refine ⟨dx, v, ib, hdx, q1, q2, q3, fun t ha => ⟨true, by rw [agree_guard ha]; exact h1, h2, ?_⟩⟩
    simp only [if_true]
    have := q4 t (agree_ev ha) ha.hp
    unfold opTo
    split
    · rename_i c hop
      split
      · rename_i x hc; simp [simpleD, hop, hc] at hsd
      · exact this
    · exact this

/-! ### two steps change places -/
def disj (a b : List Nat) : Bool := a.all fun x => !(b.contains x)
theorem disj_spec {a b : List Nat} (h : disj a b = true) : ∀ x ∈ a, x ∉ b := by
  intro x hx hb
  have := List.all_eq_true.1 h x hx
  simp [hb] at this
def dstL : Option Tmp → List Nat
  | none => []
  | some d => [d]
def compat (a b : Lab) : Bool :=
  (a.simple || b.simple) && disj (dstL a.dst) (b.looks ++ dstL b.dst) && disj (dstL b.dst) a.looks && disj a.gone b.looks && disj b.gone a.looks && disj a.wr b.rd && disj b.wr a.rd

theorem lab_dst {P ops o s} : (labD P ops o s).dst = o.dst := by unfold labD; split <;> rfl
theorem lab_looks {P ops o s} : (labD P ops o s).looks = looksG ops o := by unfold labD; split <;> rfl
theorem goneD_sub {tk : Bool} {o s} : ∀ u ∈ goneD tk o s, u ∈ looksD o := by
  intro u hu
  unfold goneD at hu
  split at hu
  · exact (goneL_mem.1 hu).1
  · cases hu
theorem lab_gone {P ops o s} : ∀ u ∈ (labD P ops o s).gone, u ∈ looksG ops o := by
  intro u hu
  unfold labD at hu
  split at hu
  · cases hu
  · simp only [looksG, List.mem_append]; exact .inr (goneD_sub u hu)
theorem lab_wr {P ops o s} : ∀ u ∈ (labD P ops o s).wr, u ∈ (labD P ops o s).rd := by
  intro u hu
  unfold labD at hu ⊢
  split at hu
  · cases hu
  · rename_i h
    rw [if_neg h]
    dsimp only at hu ⊢
    unfold wrD at hu
    split at hu
    · rename_i t x hop
      split at hu
      · rename_i id off hx
        have : rdD o s = [id] := by simp [rdD, hop, hx]
        rw [this]
        split at hu
        · split at hu
          · exact hu
          · cases hu
        · cases hu
      · cases hu
    · exact hu

theorem setO_back {hp : List (List DV)} {j : Nat} {b c : List DV} (hj : hp[j]? = some c) : (hp.set j b).set j c = hp := by
  rw [List.set_set]
  obtain ⟨h1, h2⟩ := List.getElem?_eq_some_iff.1 hj
  subst h2
  exact List.set_getElem_self h1
theorem set_same {hp : List (List DV)} {j : Nat} {b : List DV} (hj : hp[j]? = some b) : hp.set j b = hp := by
  obtain ⟨h1, h2⟩ := List.getElem?_eq_some_iff.1 hj
  subst h2
  exact List.set_getElem_self h1

theorem swap {C n ops x y s s1 s2} (h1 : gstep C n ops x s s1) (h2 : gstep C n ops y s1 s2) (hc : compat (labD C.P ops x s) (labD C.P ops y s1) = true)
    (hL : (labD C.P ops y s1).simple = true → ∀ i ∈ (labD C.P ops y s1).rd, i < s.hp.length) :
    ∃ s1', gstep C n ops y s s1' ∧ gstep C n ops x s1' s2 ∧ labD C.P ops y s = labD C.P ops y s1 ∧ labD C.P ops x s1' = labD C.P ops x s := by
  simp only [compat, Bool.and_eq_true, Bool.or_eq_true] at hc
  obtain ⟨⟨⟨⟨⟨⟨hsimp, hd1⟩, hd2⟩, hg1⟩, hg2⟩, hw1⟩, hw2⟩ := hc
  have d1 := disj_spec hd1
  have d2 := disj_spec hd2
  have g1 := disj_spec hg1
  have g2 := disj_spec hg2
  have w1 := disj_spec hw1
  have w2 := disj_spec hw2
  rw [lab_dst, lab_dst, lab_looks] at d1
  rw [lab_dst, lab_looks] at d2
  rw [lab_looks] at g1 g2
  by_cases hx : (labD C.P ops x s).simple = true
  · -- the first one is simple
    obtain ⟨dx, v, ib, hdx, q1, q2, q3, q4⟩ := simple_loc h1 hx
    have hxy : dx ∉ looksG ops y := fun q => d1 dx (by rw [hdx]; simp [dstL]) (by simp [q])
    have hxd : y.dst ≠ some dx := fun q => d1 dx (by rw [hdx]; simp [dstL]) (by rw [q]; simp [dstL])
    have k2 := gstep_keeps h2
    rw [lab_dst] at k2
    subst q1
    -- back
    let ib0 : Option (Nat × List DV) := ib.bind fun p => (s.hp[p.1]?).map fun c => (p.1, c)
    have hib0 : ∀ j c, ib0 = some (j, c) → s.hp[j]? = some c ∧ ∃ b, ib = some (j, b) := by
      intro j c h
      cases ib with
      | none => simp [ib0] at h
      | some p =>
        obtain ⟨j', b⟩ := p
        simp only [ib0, Option.bind_some, Option.map_eq_some_iff] at h
        obtain ⟨c', h3, h4⟩ := h
        injection h4 with h4 h5; subst h4; subst h5
        exact ⟨h3, b, rfl⟩
    have hback : mu dx (s.tm dx) ib0 (mu dx v ib s) = s := by
      have e1 : upd (upd s.tm dx v) dx (s.tm dx) = s.tm := by
        funext i
        by_cases h : i = dx
        · subst h; simp [upd]
        · simp [upd, h]
      have e2 : setO (setO s.hp ib) ib0 = s.hp := by
        cases ib with
        | none => rfl
        | some p =>
          obtain ⟨j, b⟩ := p
          have hj := (q2 j b rfl).2
          have : ib0 = some (j, s.hp[j]) := by simp only [ib0, Option.bind_some, List.getElem?_eq_getElem hj, Option.map_some]
          rw [this]
          simp only [setO]
          exact setO_back (List.getElem?_eq_getElem hj)
      simp only [mu, e1, e2]
    have hoff0 : ∀ i ∈ (labD C.P ops y (mu dx v ib s)).rd, offBox ib0 i := by
      intro i hi j c hjc e
      obtain ⟨_, b, hb⟩ := hib0 j c hjc
      exact w1 j (q2 j b hb).1 (by rw [e]; exact hi)
    have hlen1 : (mu dx v ib s).hp.length = s.hp.length := by rw [hp_mu, setO_len]
    have hm := gstep_mu (v := s.tm dx) (ib := ib0) hxy hxd hoff0 (fun j c hjc => by
      obtain ⟨h3, _⟩ := hib0 j c hjc
      rw [hlen1]; exact (List.getElem?_eq_some_iff.1 h3).1) h2
    rw [hback] at hm
    have hly : labD C.P ops y s = labD C.P ops y (mu dx v ib s) := by
      refine lab_congr ⟨fun u hu => ?_, fun i hi => ?_⟩
      · rw [tm_mu (fun e => hxy (by rw [← e]; exact hu))]
      · rw [hp_mu, setO_get]
        intro j b hb e
        exact w1 j (q2 j b hb).1 (by rw [e]; exact hi)
    have hag : Agree ops x (labD C.P ops x s).rd s (mu dx (s.tm dx) ib0 s2) := by
      refine ⟨fun u hu => ?_, fun i hi => ?_⟩
      · by_cases hud : u = dx
        · subst hud; simp [mu, upd]
        · rw [tm_mu hud, k2.tm u (fun e => d2 u (by rw [e]; simp [dstL]) hu) (fun q => g2 u q hu), tm_mu hud]
      · have hilt := q3 i hi
        rw [hp_mu]
        by_cases hij : ∃ c, ib0 = some (i, c)
        · obtain ⟨c, hc⟩ := hij
          obtain ⟨h3, _⟩ := hib0 i c hc
          rw [hc]
          simp only [setO]
          have : i < s2.hp.length := Nat.lt_of_lt_of_le (by rw [hlen1]; exact hilt) k2.len
          rw [List.getElem?_set_self this, h3]
        · rw [setO_get (fun j c hjc e => hij ⟨c, by rw [← e]; exact hjc⟩), k2.hp i (by rw [hlen1]; exact hilt) (fun q => w2 i q hi), hp_mu, setO_get]
          intro j b hb e
          subst e
          exact hij ⟨s.hp[j], by
            simp only [ib0, hb, Option.bind_some, List.getElem?_eq_getElem hilt, Option.map_some]⟩
    refine ⟨mu dx (s.tm dx) ib0 s2, hm, ?_, hly, lab_congr hag⟩
    have := q4 _ hag
    have hfwd : mu dx v ib (mu dx (s.tm dx) ib0 s2) = s2 := by
      have hv : s2.tm dx = v := by
        rw [k2.tm dx (fun e => hxd e) (fun q => hxy (lab_gone dx q))]
        simp [mu, upd]
      have e1 : upd (upd s2.tm dx (s.tm dx)) dx v = s2.tm := by
        funext i
        by_cases h : i = dx
        · subst h; simp [upd, hv]
        · simp [upd, h]
      have e2 : setO (setO s2.hp ib0) ib = s2.hp := by
        cases ib with
        | none => rfl
        | some p =>
          obtain ⟨j, b⟩ := p
          have hj := (q2 j b rfl).2
          have : ib0 = some (j, s.hp[j]) := by simp only [ib0, Option.bind_some, List.getElem?_eq_getElem hj, Option.map_some]
          rw [this]
          simp only [setO]
          rw [List.set_set]
          apply set_same
          rw [k2.hp j (by rw [hlen1]; exact hj) (fun q => w2 j q (lab_wr j (q2 j b rfl).1)), hp_mu]
          simp only [setO]
          exact List.getElem?_set_self hj
      simp only [mu, e1, e2]
    rw [hfwd] at this
    exact this
  · -- the second one is
    have hy : (labD C.P ops y s1).simple = true := by
      rcases hsimp with h | h
      · exact absurd h hx
      · exact h
    obtain ⟨dx, v, ib, hdx, q1, q2, q3, q4⟩ := simple_loc h2 hy
    have hrd := hL hy
    have k1 := gstep_keeps h1
    rw [lab_dst] at k1
    have hxy : dx ∉ looksG ops x := d2 dx (by rw [hdx]; simp [dstL])
    have hxd : x.dst ≠ some dx := fun q => d1 dx (by rw [q]; simp [dstL]) (by rw [hdx]; simp [dstL])
    have hag : Agree ops y (labD C.P ops y s1).rd s1 s := by
      refine ⟨fun u hu => ?_, fun i hi => ?_⟩
      · exact (k1.tm u (fun e => d1 u (by rw [e]; simp [dstL]) (by simp [hu])) (fun q => g1 u q hu)).symm
      · exact (k1.hp i (hrd i hi) (fun q => w1 i q hi)).symm
    have hm := gstep_mu (v := v) (ib := ib) hxy hxd (fun i hi j b hb e => w2 j (q2 j b hb).1 (by rw [e]; exact hi)) (fun j b hb => hrd j (lab_wr j (q2 j b hb).1)) h1
    refine ⟨mu dx v ib s, q4 s hag, by rw [q1]; exact hm, lab_congr hag, ?_⟩
    refine lab_congr ⟨fun u hu => tm_mu (fun e => hxy (by rw [← e]; exact hu)), fun i hi => ?_⟩
    rw [hp_mu, setO_get]
    intro j b hb e
    exact w2 j (q2 j b hb).1 (by rw [e]; exact hi)
end Go.Proofs.Dm
