/- Part of the proof: contracts of the functions, walked by the D-machine. No condition. -/
import Derived.Test.YtmbnkgagicgcoaaDoorDg
import Derived.Orders
set_option linter.unusedVariables false
set_option linter.unusedSimpArgs false
namespace Go.Proofs.Dm
open Go Go.RowKit

theorem put_is_mu {s : St} {d : Nat} {v : DV} : s.put (some d) v = mu d v none s := rfl

theorem fillD_congr {s t : St} {pl : List (Nat × Nat)} : ∀ {parts : List (Nat × Operand)} {cells k}, (∀ p ∈ parts, evalD t p.2 = evalD s p.2) → fillD t pl parts cells k = fillD s pl parts cells k
  | [], cells, k, h => rfl
  | (i, x) :: rest, cells, k, h => by
    simp only [fillD, h (i, x) (by simp)]
    have ih := fun c k => fillD_congr (s := s) (t := t) (pl := pl) (parts := rest) (cells := c) (k := k) (fun p hp => h p (by simp [hp]))
    simp only [ih]
theorem rowsD_congr {P : Program} {s t : St} {e z} : ∀ {parts : List (Nat × Operand)} {k}, (∀ p ∈ parts, evalD t p.2 = evalD s p.2) → rowsD P t e z k parts = rowsD P s e z k parts
  | [], k, h => rfl
  | (i, x) :: rest, k, h => by
    simp only [rowsD, h (i, x) (by simp), rowsD_congr (parts := rest) (fun p hp => h p (by simp [hp]))]

/-- What a step does that only fills its slot (and perhaps takes out of a box), it does wherever it sees the same. -/
theorem stepD_simple {P : Program} {n : Nat} {tk : Bool} {o : Oper} {s s1 : St} {dx : Nat} (e : stepD P n tk o s = some s1) (hs : simpleD tk o s = true) (hdx : o.dst = some dx) :
    ∃ v ib, s1 = mu dx v ib s ∧ (∀ j b, ib = some (j, b) → j ∈ wrD P tk o s ∧ j < s.hp.length) ∧ (∀ i ∈ rdD o s, i < s.hp.length) ∧
      ∀ t : St, (∀ x ∈ o.op.operands.toList, evalD t x = evalD s x) → (∀ i ∈ rdD o s, t.hp[i]? = s.hp[i]?) → stepD P n tk o t = some (mu dx v ib t) := by
  have done : ∀ v, rdD o s = [] → s1 = s.put o.dst v → (∀ t : St, (∀ x ∈ o.op.operands.toList, evalD t x = evalD s x) → stepD P n tk o t = some (t.put o.dst v)) →
      ∃ v ib, s1 = mu dx v ib s ∧ (∀ j b, ib = some (j, b) → j ∈ wrD P tk o s ∧ j < s.hp.length) ∧ (∀ i ∈ rdD o s, i < s.hp.length) ∧
      ∀ t : St, (∀ x ∈ o.op.operands.toList, evalD t x = evalD s x) → (∀ i ∈ rdD o s, t.hp[i]? = s.hp[i]?) → stepD P n tk o t = some (mu dx v ib t) := by
    intro v hrd h1 h2
    refine ⟨v, none, by rw [h1, hdx]; rfl, fun j b h => (by cases h), by rw [hrd]; simp, fun t ht _ => ?_⟩
    rw [h2 t ht, hdx]; rfl
  have e0 := e
  unfold stepD at e
  split at e
  · rename_i hdst
    have mv : ∀ tk' x, x ∈ o.op.operands.toList → rdD o s = [] → (tk' = false ∨ anyOwn s (looksD o) = false) → (∀ t : St, stepD P n tk o t = moveD P tk' o x t) → moveD P tk' o x s = some s1 →
        ∃ v ib, s1 = mu dx v ib s ∧ (∀ j b, ib = some (j, b) → j ∈ wrD P tk o s ∧ j < s.hp.length) ∧ (∀ i ∈ rdD o s, i < s.hp.length) ∧
        ∀ t : St, (∀ x ∈ o.op.operands.toList, evalD t x = evalD s x) → (∀ i ∈ rdD o s, t.hp[i]? = s.hp[i]?) → stepD P n tk o t = some (mu dx v ib t) := by
      intro tk' x hx hrd hno hst e
      unfold moveD at e
      split at e
      · rename_i u
        have hut : ∀ t : St, (∀ x ∈ o.op.operands.toList, evalD t x = evalD s x) → t.tm u = s.tm u := fun t ht => by have := ht _ hx; simpa only [evalD, Option.some.injEq] using this
        cases hu : hasOwn (s.tm u) with
        | false =>
          rw [hu] at e
          simp only [Bool.false_eq_true, if_false, Option.some.injEq] at e
          refine done _ hrd e.symm fun t ht => ?_
          rw [hst t]
          simp only [moveD, hut t ht, hu, Bool.false_eq_true, if_false]
        | true =>
          have htk : tk' = false := by
            rcases hno with q | q
            · exact q
            · have := anyOwn_false q u (mem_looks.2 hx)
              rw [hu] at this; cases this
          subst htk
          rw [hu] at e
          simp only [Bool.false_eq_true, if_false, if_true, Option.some.injEq] at e
          refine done _ hrd e.symm fun t ht => ?_
          rw [hst t]
          simp only [moveD, hut t ht, hu, Bool.false_eq_true, if_false, if_true]
      · rename_i hnt
        split at e
        · rename_i d hev
          injection e with e
          refine done _ hrd e.symm fun t ht => ?_
          rw [hst t]
          have := ht x hx
          unfold moveD
          split
          · rename_i u; exact absurd rfl (hnt u)
          · rw [this, hev]
        · cases e
    split at e
    · rename_i x hop
      exact mv tk x (by rw [hop]; simp [Op.operands]) (by simp [rdD, hop]) (by cases tk <;> simp_all [simpleD]) (fun t => by simp [stepD, hdst, hop]) e
    · rename_i x hop
      exact mv true x (by rw [hop]; simp [Op.operands]) (by simp [rdD, hop]) (.inr (by simpa [simpleD, hop] using hs)) (fun t => by simp [stepD, hdst, hop]) e
    · rename_i t hop; simp [simpleD, hop] at hs
    · rename_i t x hop; simp [simpleD, hop] at hs
    · rename_i ty x hop
      have hxm : x ∈ o.op.operands.toList := by rw [hop]; simp [Op.operands]
      have hst : ∀ t : St, stepD P n tk o t = loadD P tk o ty x t := fun t => by simp [stepD, hdst, hop]
      unfold loadD at e
      split at e
      · rename_i z g h1 h2
        split at e
        · rename_i id off h3
          have hrd : rdD o s = [id] := by simp [rdD, hop, h3]
          split at e
          · rename_i box h4
            have hlt : id < s.hp.length := (List.getElem?_eq_some_iff.1 h4).1
            split at e
            · rename_i h5
              split at e
              · rename_i h6
                split at e
                · rename_i d u h7 h8
                  injection e with e
                  rw [hdx] at h7; injection h7 with h7; subst h7
                  refine ⟨u, some (id, _), e.symm, fun j b h => ?_, by rw [hrd]; simpa using hlt, fun t ht hh => ?_⟩
                  · injection h with h; injection h with h _; subst h
                    exact ⟨by simp only [wrD, hop, h3, h1, h4]; rw [if_pos h6]; simp, hlt⟩
                  · rw [hst t]
                    have q1 := ht x hxm
                    have q2 := hh id (by rw [hrd]; simp)
                    simp only [loadD, h1, h2, q1, h3, q2, h4, if_pos h5, if_pos h6, hdx, h8]
                    rfl
                · cases e
              · rename_i h6
                obtain ⟨u, h7, h8⟩ := Option.map_eq_some_iff.1 e
                refine ⟨u, none, by rw [← h8, hdx]; rfl, fun j b h => (by cases h), by rw [hrd]; simpa using hlt, fun t ht hh => ?_⟩
                rw [hst t]
                have q1 := ht x hxm
                have q2 := hh id (by rw [hrd]; simp)
                simp only [loadD, h1, h2, q1, h3, q2, h4, if_pos h5, if_neg h6, h7, Option.map_some, hdx]
                rfl
            · cases e
          · cases e
        · rename_i cs h3
          split at e
          · rename_i h5
            obtain ⟨u, h7, h8⟩ := Option.map_eq_some_iff.1 e
            refine done u (by simp [rdD, hop, h3]) h8.symm fun t ht => ?_
            rw [hst t]
            have q1 := ht x hxm
            simp only [loadD, h1, h2, q1, h3, if_pos h5, h7, Option.map_some]
          · cases e
        · cases e
      · cases e
    · rename_i t x y hop; simp [simpleD, hop] at hs
    · rename_i ty parts hop
      have hno : anyOwn s (looksD o) = false := by simpa [simpleD, hop] using hs
      have hpm : ∀ p ∈ parts.toList, p.2 ∈ o.op.operands.toList := fun p hp => by rw [hop]; simp only [Op.operands, List.toList_toArray, List.mem_map]; exact ⟨p, hp, rfl⟩
      unfold buildD at e
      split at e
      · rename_i d pl zc h1 h2 h3
        split at e
        · rename_i cells h4
          injection e with e
          rw [← h1] at e
          refine done _ (by simp [rdD, hop]) e.symm fun t ht => ?_
          have hst : stepD P n tk o t = buildD P o ty parts.toList t := by simp [stepD, hdst, hop]
          rw [hst]
          simp only [buildD, h1, h2, h3, fillD_congr (s := s) (t := t) (fun p hp => ht p.2 (hpm p hp)), h4]
        · rename_i cells ts off h4
          rcases stepD_keeps.fillD_owner _ _ _ _ _ _ h4 with q | ⟨i, q1, q2⟩
          · cases q
          · rw [anyOwn_false hno ts (mem_looks.2 (hpm _ q1))] at q2; cases q2
        · cases e
      · cases e
    · rename_i ty len parts hop
      have hpm : ∀ p ∈ parts.toList, p.2 ∈ o.op.operands.toList := fun p hp => by rw [hop]; simp only [Op.operands, List.toList_toArray, List.mem_map]; exact ⟨p, hp, rfl⟩
      unfold buildSliceD at e
      split at e
      · rename_i el d h1 h2
        split at e
        · rename_i z zv h3 h4
          split at e
          · rename_i rows h5
            split at e
            · rename_i h6
              injection e with e
              rw [← h2] at e
              refine done _ (by simp [rdD, hop]) e.symm fun t ht => ?_
              have hst : stepD P n tk o t = buildSliceD P o ty len parts.toList t := by simp [stepD, hdst, hop]
              rw [hst]
              simp only [buildSliceD, h1, h2, h3, h4, rowsD_congr (s := s) (t := t) (fun p hp => ht p.2 (hpm p hp)), h5, if_pos h6]
            · cases e
          · cases e
        · cases e
      · cases e
    · rename_i t l c hop; simp [simpleD, hop] at hs
    · rename_i c hop
      split at e
      · rename_i hc; simp [simpleD, hop, hc] at hs
      · rename_i hc; simp [simpleD, hop, hc] at hs
      · rename_i hc; simp [simpleD, hop, hc] at hs
      · rename_i hc hc2 hc3
        obtain ⟨d, h2, h3⟩ := Option.map_eq_some_iff.1 e
        have hrd : rdD o s = [] := by
          simp only [rdD, hop]
          cases hx : c.callee with
          | value x => simp [simpleD, hop, hx] at hs
          | builtin b => cases b <;> first | rfl | exact absurd hx hc | exact absurd hx hc2 | exact absurd hx hc3
          | _ => rfl
        refine done d hrd h3.symm fun t ht => ?_
        have hst : stepD P n tk o t = (callD P (evalD t) c).map (t.put o.dst) := by
          simp only [stepD, hdst, if_true, hop]
        rw [hst, callD_congr (ev' := evalD s) (fun x hx => ht x (by rw [hop]; simpa only [Op.operands] using hx)), h2]
        rfl
    · rename_i n1 n2 n3 n4 n5 n6 n7 n8 n9 n10
      obtain ⟨d, h2, h3⟩ := Option.map_eq_some_iff.1 e
      have hrd : rdD o s = [] := by
        simp only [rdD]
      refine done d hrd h3.symm fun t ht => ?_
      have hst : stepD P n tk o t = (pureD P (evalD t) o.op).map (t.put o.dst) := by
        simp only [stepD, hdst, if_true]
      rw [hst, pureD_congr (ev' := evalD s) ht, h2]
      rfl
  · cases e

theorem simple_loc {C n ops o s s1} (e : gstep C n ops o s s1) (hs : (labD C.P ops o s).simple = true) :
    ∃ dx v ib, o.dst = some dx ∧ s1 = mu dx v ib s ∧ (∀ j b, ib = some (j, b) → j ∈ (labD C.P ops o s).wr ∧ j < s.hp.length) ∧ (∀ i ∈ (labD C.P ops o s).rd, i < s.hp.length) ∧
      ∀ t, Agree ops o (labD C.P ops o s).rd s t → gstep C n ops o t (mu dx v ib t) := by
  obtain ⟨g, h1, h2, h3⟩ := e
  cases g with
  | false =>
    have hsk : skips ops o s = true := by simp [skips, h1]
    simp only [labD, hsk, if_true] at hs ⊢
    simp only [Bool.false_eq_true, if_false] at h3
    obtain ⟨dx, hdx⟩ := Option.isSome_iff_exists.1 hs
    refine ⟨dx, .ud, none, hdx, by rw [h3, hdx]; rfl, fun j b h => (by cases h), by simp, fun t ha => ⟨false, by rw [agree_guard ha]; exact h1, h2, ?_⟩⟩
    simp only [Bool.false_eq_true, if_false, hdx]; rfl
  | true =>
    have hsk : skips ops o s = false := by simp [skips, h1]
    simp only [labD, hsk, Bool.false_eq_true, if_false, Bool.and_eq_true] at hs ⊢
    simp only [if_true] at h3
    obtain ⟨hd, hsd⟩ := hs
    obtain ⟨dx, hdx⟩ := Option.isSome_iff_exists.1 hd
    have hstep : stepD C.P n (takes ops o) o s = some s1 := by
      unfold opTo at h3
      split at h3
      · rename_i c hop
        split at h3
        · rename_i x hc; simp [simpleD, hop, hc] at hsd
        · exact h3
      · exact h3
    obtain ⟨v, ib, q1, q2, q3, q4⟩ := stepD_simple hstep hsd hdx
    refine ⟨dx, v, ib, hdx, q1, q2, q3, fun t ha => ⟨true, by rw [agree_guard ha]; exact h1, h2, ?_⟩⟩
    simp only [if_true]
    have := q4 t (agree_ev ha) ha.hp
    unfold opTo
    split
    · rename_i c hop
      split
      · rename_i x hc; simp [simpleD, hop, hc] at hsd
      · exact this
    · exact this

/-! ### two steps change places -/
def disj (a b : List Nat) : Bool := a.all fun x => !(b.contains x)
theorem disj_spec {a b : List Nat} (h : disj a b = true) : ∀ x ∈ a, x ∉ b := by
  intro x hx hb
  have := List.all_eq_true.1 h x hx
  simp [hb] at this
def dstL : Option Tmp → List Nat
  | none => []
  | some d => [d]
def compatO (a b : Lab) : Bool :=
  (a.simple || b.simple) && disj (dstL a.dst) (b.looks ++ dstL b.dst) && disj (dstL b.dst) a.looks && disj a.gone b.looks && disj b.gone a.looks && disj a.wr b.rd && disj b.wr a.rd

theorem lab_dst {P ops o s} : (labD P ops o s).dst = o.dst := by unfold labD; split <;> rfl
theorem lab_looks {P ops o s} : (labD P ops o s).looks = looksG ops o := by unfold labD; split <;> rfl
theorem goneD_sub {tk : Bool} {o s} : ∀ u ∈ goneD tk o s, u ∈ looksD o := by
  intro u hu
  unfold goneD at hu
  split at hu
  · exact (goneL_mem.1 hu).1
  · cases hu
theorem lab_gone {P ops o s} : ∀ u ∈ (labD P ops o s).gone, u ∈ looksG ops o := by
  intro u hu
  unfold labD at hu
  split at hu
  · cases hu
  · simp only [looksG, List.mem_append]; exact .inr (goneD_sub u hu)
theorem lab_wr {P ops o s} : ∀ u ∈ (labD P ops o s).wr, u ∈ (labD P ops o s).rd := by
  intro u hu
  unfold labD at hu ⊢
  split at hu
  · cases hu
  · rename_i h
    rw [if_neg h]
    dsimp only at hu ⊢
    unfold wrD at hu
    split at hu
    · rename_i t x hop
      split at hu
      · rename_i id off hx
        have : rdD o s = [id] := by simp [rdD, hop, hx]
        rw [this]
        split at hu
        · split at hu
          · exact hu
          · cases hu
        · cases hu
      · cases hu
    · exact hu

theorem setO_back {hp : List (List DV)} {j : Nat} {b c : List DV} (hj : hp[j]? = some c) : (hp.set j b).set j c = hp := by
  rw [List.set_set]
  obtain ⟨h1, h2⟩ := List.getElem?_eq_some_iff.1 hj
  subst h2
  exact List.set_getElem_self h1
theorem set_same {hp : List (List DV)} {j : Nat} {b : List DV} (hj : hp[j]? = some b) : hp.set j b = hp := by
  obtain ⟨h1, h2⟩ := List.getElem?_eq_some_iff.1 hj
  subst h2
  exact List.set_getElem_self h1

theorem swapO {C n ops x y s s1 s2} (h1 : gstep C n ops x s s1) (h2 : gstep C n ops y s1 s2) (hc : compatO (labD C.P ops x s) (labD C.P ops y s1) = true)
    (hL : (labD C.P ops y s1).simple = true → ∀ i ∈ (labD C.P ops y s1).rd, i < s.hp.length) :
    ∃ s1', gstep C n ops y s s1' ∧ gstep C n ops x s1' s2 ∧ labD C.P ops y s = labD C.P ops y s1 ∧ labD C.P ops x s1' = labD C.P ops x s := by
  simp only [compatO, Bool.and_eq_true, Bool.or_eq_true] at hc
  obtain ⟨⟨⟨⟨⟨⟨hsimp, hd1⟩, hd2⟩, hg1⟩, hg2⟩, hw1⟩, hw2⟩ := hc
  have d1 := disj_spec hd1
  have d2 := disj_spec hd2
  have g1 := disj_spec hg1
  have g2 := disj_spec hg2
  have w1 := disj_spec hw1
  have w2 := disj_spec hw2
  rw [lab_dst, lab_dst, lab_looks] at d1
  rw [lab_dst, lab_looks] at d2
  rw [lab_looks] at g1 g2
  by_cases hx : (labD C.P ops x s).simple = true
  · -- the first one is simple
    obtain ⟨dx, v, ib, hdx, q1, q2, q3, q4⟩ := simple_loc h1 hx
    have hxy : dx ∉ looksG ops y := fun q => d1 dx (by rw [hdx]; simp [dstL]) (by simp [q])
    have hxd : y.dst ≠ some dx := fun q => d1 dx (by rw [hdx]; simp [dstL]) (by rw [q]; simp [dstL])
    have k2 := gstep_keeps h2
    rw [lab_dst] at k2
    subst q1
    -- back
    let ib0 : Option (Nat × List DV) := ib.bind fun p => (s.hp[p.1]?).map fun c => (p.1, c)
    have hib0 : ∀ j c, ib0 = some (j, c) → s.hp[j]? = some c ∧ ∃ b, ib = some (j, b) := by
      intro j c h
      cases ib with
      | none => simp [ib0] at h
      | some p =>
        obtain ⟨j', b⟩ := p
        simp only [ib0, Option.bind_some, Option.map_eq_some_iff] at h
        obtain ⟨c', h3, h4⟩ := h
        injection h4 with h4 h5; subst h4; subst h5
        exact ⟨h3, b, rfl⟩
    have hback : mu dx (s.tm dx) ib0 (mu dx v ib s) = s := by
      have e1 : upd (upd s.tm dx v) dx (s.tm dx) = s.tm := by
        funext i
        by_cases h : i = dx
        · subst h; simp [upd]
        · simp [upd, h]
      have e2 : setO (setO s.hp ib) ib0 = s.hp := by
        cases ib with
        | none => rfl
        | some p =>
          obtain ⟨j, b⟩ := p
          have hj := (q2 j b rfl).2
          have : ib0 = some (j, s.hp[j]) := by simp only [ib0, Option.bind_some, List.getElem?_eq_getElem hj, Option.map_some]
          rw [this]
          simp only [setO]
          exact setO_back (List.getElem?_eq_getElem hj)
      simp only [mu, e1, e2]
    have hoff0 : ∀ i ∈ (labD C.P ops y (mu dx v ib s)).rd, offBox ib0 i := by
      intro i hi j c hjc e
      obtain ⟨_, b, hb⟩ := hib0 j c hjc
      exact w1 j (q2 j b hb).1 (by rw [e]; exact hi)
    have hlen1 : (mu dx v ib s).hp.length = s.hp.length := by rw [hp_mu, setO_len]
    have hm := gstep_mu (v := s.tm dx) (ib := ib0) hxy hxd hoff0 (fun j c hjc => by
      obtain ⟨h3, _⟩ := hib0 j c hjc
      rw [hlen1]; exact (List.getElem?_eq_some_iff.1 h3).1) h2
    rw [hback] at hm
    have hly : labD C.P ops y s = labD C.P ops y (mu dx v ib s) := by
      refine lab_congr ⟨fun u hu => ?_, fun i hi => ?_⟩
      · rw [tm_mu (fun e => hxy (by rw [← e]; exact hu))]
      · rw [hp_mu, setO_get]
        intro j b hb e
        exact w1 j (q2 j b hb).1 (by rw [e]; exact hi)
    have hag : Agree ops x (labD C.P ops x s).rd s (mu dx (s.tm dx) ib0 s2) := by
      refine ⟨fun u hu => ?_, fun i hi => ?_⟩
      · by_cases hud : u = dx
        · subst hud; simp [mu, upd]
        · rw [tm_mu hud, k2.tm u (fun e => d2 u (by rw [e]; simp [dstL]) hu) (fun q => g2 u q hu), tm_mu hud]
      · have hilt := q3 i hi
        rw [hp_mu]
        by_cases hij : ∃ c, ib0 = some (i, c)
        · obtain ⟨c, hc⟩ := hij
          obtain ⟨h3, _⟩ := hib0 i c hc
          rw [hc]
          simp only [setO]
          have : i < s2.hp.length := Nat.lt_of_lt_of_le (by rw [hlen1]; exact hilt) k2.len
          rw [List.getElem?_set_self this, h3]
        · rw [setO_get (fun j c hjc e => hij ⟨c, by rw [← e]; exact hjc⟩), k2.hp i (by rw [hlen1]; exact hilt) (fun q => w2 i q hi), hp_mu, setO_get]
          intro j b hb e
          subst e
          exact hij ⟨s.hp[j], by
            simp only [ib0, hb, Option.bind_some, List.getElem?_eq_getElem hilt, Option.map_some]⟩
    refine ⟨mu dx (s.tm dx) ib0 s2, hm, ?_, hly, lab_congr hag⟩
    have := q4 _ hag
    have hfwd : mu dx v ib (mu dx (s.tm dx) ib0 s2) = s2 := by
      have hv : s2.tm dx = v := by
        rw [k2.tm dx (fun e => hxd e) (fun q => hxy (lab_gone dx q))]
        simp [mu, upd]
      have e1 : upd (upd s2.tm dx (s.tm dx)) dx v = s2.tm := by
        funext i
        by_cases h : i = dx
        · subst h; simp [upd, hv]
        · simp [upd, h]
      have e2 : setO (setO s2.hp ib0) ib = s2.hp := by
        cases ib with
        | none => rfl
        | some p =>
          obtain ⟨j, b⟩ := p
          have hj := (q2 j b rfl).2
          have : ib0 = some (j, s.hp[j]) := by simp only [ib0, Option.bind_some, List.getElem?_eq_getElem hj, Option.map_some]
          rw [this]
          simp only [setO]
          rw [List.set_set]
          apply set_same
          rw [k2.hp j (by rw [hlen1]; exact hj) (fun q => w2 j q (lab_wr j (q2 j b rfl).1)), hp_mu]
          simp only [setO]
          exact List.getElem?_set_self hj
      simp only [mu, e1, e2]
    rw [hfwd] at this
    exact this
  · -- the second one is
    have hy : (labD C.P ops y s1).simple = true := by
      rcases hsimp with h | h
      · exact absurd h hx
      · exact h
    obtain ⟨dx, v, ib, hdx, q1, q2, q3, q4⟩ := simple_loc h2 hy
    have hrd := hL hy
    have k1 := gstep_keeps h1
    rw [lab_dst] at k1
    have hxy : dx ∉ looksG ops x := d2 dx (by rw [hdx]; simp [dstL])
    have hxd : x.dst ≠ some dx := fun q => d1 dx (by rw [q]; simp [dstL]) (by rw [hdx]; simp [dstL])
    have hag : Agree ops y (labD C.P ops y s1).rd s1 s := by
      refine ⟨fun u hu => ?_, fun i hi => ?_⟩
      · exact (k1.tm u (fun e => d1 u (by rw [e]; simp [dstL]) (by simp [hu])) (fun q => g1 u q hu)).symm
      · exact (k1.hp i (hrd i hi) (fun q => w1 i q hi)).symm
    have hm := gstep_mu (v := v) (ib := ib) hxy hxd (fun i hi j b hb e => w2 j (q2 j b hb).1 (by rw [e]; exact hi)) (fun j b hb => hrd j (lab_wr j (q2 j b hb).1)) h1
    refine ⟨mu dx v ib s, q4 s hag, by rw [q1]; exact hm, lab_congr hag, ?_⟩
    refine lab_congr ⟨fun u hu => tm_mu (fun e => hxy (by rw [← e]; exact hu)), fun i hi => ?_⟩
    rw [hp_mu, setO_get]
    intro j b hb e
    exact w2 j (q2 j b hb).1 (by rw [e]; exact hi)

/-! ### two loads out of one box -/
def ldOK : Option (Nat × Nat × Nat) → Option (Nat × Nat × Nat) → Bool
  | some (i, p, z), some (j, q, y) => i == j && (decide (p + z ≤ q) || decide (q + y ≤ p))
  | _, _ => false
def cutB (b : List DV) (off : Nat) (M : List DV) : List DV := b.take off ++ M ++ b.drop (off + M.length)
theorem cutB_len {b : List DV} {off : Nat} {M : List DV} (h : off + M.length ≤ b.length) : (cutB b off M).length = b.length := by
  simp [cutB]; omega
theorem cutB_get {b : List DV} {off : Nat} {M : List DV} (h : off + M.length ≤ b.length) (i : Nat) : (cutB b off M)[i]? = if off ≤ i ∧ i < off + M.length then M[i - off]? else b[i]? := by
  have h1 : (b.take off).length = off := by simp; omega
  unfold cutB
  rw [List.append_assoc, List.getElem?_append, h1]
  by_cases q1 : i < off
  · rw [if_pos q1, if_neg (by omega), List.getElem?_take, if_pos q1]
  · rw [if_neg q1, List.getElem?_append]
    by_cases q2 : i - off < M.length
    · rw [if_pos q2, if_pos (by omega)]
    · rw [if_neg q2, if_neg (by omega), List.getElem?_drop]
      congr 1; omega
theorem cutB_part {b : List DV} {off : Nat} {M : List DV} (h : off + M.length ≤ b.length) {q y : Nat} (hd : off + M.length ≤ q ∨ q + y ≤ off) : ((cutB b off M).drop q).take y = (b.drop q).take y := by
  apply List.ext_getElem?
  intro i
  rw [List.getElem?_take, List.getElem?_take]
  split
  · rename_i hi
    rw [List.getElem?_drop, List.getElem?_drop, cutB_get h, if_neg (by omega)]
  · rfl
theorem cutB_comm {b : List DV} {p q : Nat} {M N : List DV} (h1 : p + M.length ≤ b.length) (h2 : q + N.length ≤ b.length) (hd : p + M.length ≤ q ∨ q + N.length ≤ p) : cutB (cutB b p M) q N = cutB (cutB b q N) p M := by
  apply List.ext_getElem?
  intro i
  rw [cutB_get (by rw [cutB_len h1]; exact h2), cutB_get h1, cutB_get (by rw [cutB_len h2]; exact h1), cutB_get h2]
  by_cases a : p ≤ i ∧ i < p + M.length
  · rw [if_neg (show ¬ (q ≤ i ∧ i < q + N.length) by omega), if_pos a, if_pos a]
  · simp only [if_neg a]
theorem cutB_same {b : List DV} {off z : Nat} (h : off + z ≤ b.length) : cutB b off ((b.drop off).take z) = b := by
  have hl : ((b.drop off).take z).length = z := by simp; omega
  apply List.ext_getElem?
  intro i
  rw [cutB_get (by omega), hl]
  split
  · rename_i q
    rw [List.getElem?_take, if_pos (by omega), List.getElem?_drop]
    congr 1; omega
  · rfl
/-- A load out of a box, by itself. -/
theorem load_loc {C n ops o s s1 id off z} (e : gstep C n ops o s s1) (hl : (labD C.P ops o s).ld = some (id, off, z)) :
    ∃ v box M, s.hp[id]? = some box ∧ off + z ≤ box.length ∧ M.length = z ∧ s1 = { s.put o.dst v with hp := s.hp.set id (cutB box off M) } ∧
      ∀ (t : St) (bx : List DV), (∀ u ∈ looksG ops o, t.tm u = s.tm u) → t.hp[id]? = some bx → bx.length = box.length → (bx.drop off).take z = (box.drop off).take z →
        gstep C n ops o t { t.put o.dst v with hp := t.hp.set id (cutB bx off M) } ∧ labD C.P ops o t = labD C.P ops o s := by
  have hns : skips ops o s = false := by
    cases h : skips ops o s with
    | false => rfl
    | true => simp [labD, h] at hl
  simp only [labD, hns, Bool.false_eq_true, if_false] at hl
  unfold ldD at hl
  split at hl
  · rename_i ty x hop
    split at hl
    · rename_i id' off' z' hev hz
      injection hl with hl
      injection hl with q1 hl
      injection hl with q2 q3
      subst q1; subst q2; subst q3
      obtain ⟨g, h1, h2, h3⟩ := e
      have hg : g = true := by
        cases g with
        | true => rfl
        | false => simp [skips, h1] at hns
      subst hg
      have hstep : stepD C.P n (takes ops o) o s = some s1 := by
        simp only [if_true] at h3
        unfold opTo at h3
        rw [hop] at h3
        exact h3
      unfold stepD at hstep
      rw [if_pos h2] at hstep
      rw [hop] at hstep
      dsimp only at hstep
      have core : ∀ (t : St) (bx : List DV), (∀ u ∈ looksG ops o, t.tm u = s.tm u) → t.hp[id']? = some bx → ∀ t', loadD C.P (takes ops o) o ty x t = some t' → gstep C n ops o t t' := by
        intro t bx ht hbx t' hld
        have ag : Agree ops o [] s t := ⟨ht, fun i hi => by cases hi⟩
        refine ⟨true, by rw [agree_guard ag]; exact h1, h2, ?_⟩
        simp only [if_true]
        unfold opTo
        rw [hop]
        dsimp only
        unfold stepD
        rw [if_pos h2, hop]
        exact hld
      have evt : ∀ (t : St), (∀ u ∈ looksG ops o, t.tm u = s.tm u) → evalD t x = some (.ref id' off') := by
        intro t ht
        have ag : Agree ops o [] s t := ⟨ht, fun i hi => by cases hi⟩
        rw [agree_ev ag x (by rw [hop]; simp [Op.operands]), hev]
      have labt : ∀ (t : St) (bx box : List DV), (∀ u ∈ looksG ops o, t.tm u = s.tm u) → t.hp[id']? = some bx → s.hp[id']? = some box → (bx.drop off').take z' = (box.drop off').take z' → labD C.P ops o t = labD C.P ops o s := by
        intro t bx box ht hbx hbox hpart
        have ag : Agree ops o [] s t := ⟨ht, fun i hi => by cases hi⟩
        have hsk : skips ops o t = false := by rw [← hns]; simp only [skips, agree_guard ag]
        unfold labD
        rw [hsk, hns]
        simp only [Bool.false_eq_true, if_false]
        have e1 : goneD (takes ops o) o t = goneD (takes ops o) o s := by
          simp only [goneD]
          rw [goneL_congr fun u hu => ht u (by simp only [looksG, List.mem_append]; exact .inr hu)]
        have e2 : rdD o t = rdD o s := by simp only [rdD, hop, evt t ht, hev]
        have e3 : wrD C.P (takes ops o) o t = wrD C.P (takes ops o) o s := by
          simp only [wrD, hop, evt t ht, hev, hz, hbx, hbox, hpart]
        have e4 : simpleD (takes ops o) o t = simpleD (takes ops o) o s := by simp only [simpleD, hop]
        rw [e1, e2, e3, e4, ldD_congr ag, mvD_congr ag]
      have hstep0 := hstep
      unfold loadD at hstep
      rw [hz, hev] at hstep
      split at hstep
      · rename_i z2 g2 hz2 hg2
        injection hz2 with hz2; subst hz2
        dsimp only at hstep
        split at hstep
        · rename_i box hbox
          split at hstep
          · rename_i hlen
            split at hstep
            · rename_i htk
              split at hstep
              · rename_i d v hd hv
                injection hstep with hstep
                have hml : (((box.drop off').take z').map deown).length = z' := by simp; omega
                refine ⟨v, box, ((box.drop off').take z').map deown, hbox, hlen.1, hml, ?_, fun t bx ht hbx hln hpart => ⟨?_, labt t bx box ht hbx hbox hpart⟩⟩
                · rw [← hstep, hd]
                  simp only [cutB, hml]
                · refine core t bx ht hbx _ ?_
                  unfold loadD
                  rw [hz, hg2, evt t ht, hd]
                  dsimp only
                  rw [hbx]
                  dsimp only
                  rw [if_pos ⟨by omega, fun q => hlen.2 (List.eq_nil_of_length_eq_zero (by rw [← hln, q]; rfl))⟩, hpart, if_pos htk, hv]
                  simp only [cutB, hml]
              · cases hstep
            · rename_i htk
              obtain ⟨v, hv, hs1⟩ := Option.map_eq_some_iff.1 hstep
              have hml : ((box.drop off').take z').length = z' := by simp; omega
              refine ⟨v, box, (box.drop off').take z', hbox, hlen.1, hml, ?_, fun t bx ht hbx hln hpart => ⟨?_, labt t bx box ht hbx hbox hpart⟩⟩
              · rw [cutB_same hlen.1, set_same hbox, ← hs1]
                cases o.dst <;> rfl
              · rw [← hpart, cutB_same (by omega), set_same hbx]
                have : ({ t.put o.dst v with hp := t.hp } : St) = t.put o.dst v := by cases o.dst <;> rfl
                rw [this]
                refine core t bx ht hbx _ ?_
                unfold loadD
                rw [hz, hg2, evt t ht]
                dsimp only
                rw [hbx]
                dsimp only
                rw [if_pos ⟨by omega, fun q => hlen.2 (List.eq_nil_of_length_eq_zero (by rw [← hln, q]; rfl))⟩, hpart, if_neg htk, hv]
                rfl
          · cases hstep
        · cases hstep
      · cases hstep
    · cases hl
  · cases hl
theorem put_tm_ne {s : St} {d : Option Tmp} {v : DV} {u : Tmp} (h : d ≠ some u) : (s.put d v).tm u = s.tm u := by
  cases d with
  | none => rfl
  | some d =>
    have : u ≠ d := fun e => h (by rw [e])
    simp [St.put, this]
theorem put_hp {s : St} {d : Option Tmp} {v : DV} : (s.put d v).hp = s.hp := by cases d <;> rfl
theorem swapL {C n ops x y s s1 s2} (h1 : gstep C n ops x s s1) (h2 : gstep C n ops y s1 s2) (hd1 : disj (dstL x.dst) (looksG ops y ++ dstL y.dst) = true) (hd2 : disj (dstL y.dst) (looksG ops x) = true)
    (hl : ldOK (labD C.P ops x s).ld (labD C.P ops y s1).ld = true) :
    ∃ s1', gstep C n ops y s s1' ∧ gstep C n ops x s1' s2 ∧ labD C.P ops y s = labD C.P ops y s1 ∧ labD C.P ops x s1' = labD C.P ops x s := by
  have d1 := disj_spec hd1
  have d2 := disj_spec hd2
  unfold ldOK at hl
  split at hl
  · rename_i i p z j q y' hx hy
    simp only [Bool.and_eq_true, beq_iff_eq, Bool.or_eq_true, decide_eq_true_eq] at hl
    obtain ⟨rfl, hl⟩ := hl
    obtain ⟨v, box, M, b1, b2, b3, rfl, b5⟩ := load_loc h1 hx
    have hsame := cutB_len (b := box) (off := p) (M := M) (by omega)
    have hlt : i < s.hp.length := (List.getElem?_eq_some_iff.1 b1).1
    obtain ⟨u, box2, N, c1, c2, c3, rfl, c5⟩ := load_loc h2 hy
    have hb2 : box2 = cutB box p M := by
      have : (s.hp.set i (cutB box p M))[i]? = some (cutB box p M) := by simp [hlt]
      rw [this] at c1
      injection c1 with c1; exact c1.symm
    subst hb2
    have hlen2 : q + N.length ≤ box.length := by omega
    have hlen1 : p + M.length ≤ box.length := by omega
    have hdis : p + M.length ≤ q ∨ q + N.length ≤ p := by omega
    have hxs : ∀ w ∈ looksG ops y, x.dst ≠ some w := fun w hw e => d1 w (by rw [e]; simp [dstL]) (by simp [hw])
    have hys : ∀ w ∈ looksG ops x, y.dst ≠ some w := fun w hw e => d2 w (by rw [e]; simp [dstL]) hw
    have hyd : ∀ a b : Tmp, x.dst = some a → y.dst = some b → a ≠ b := fun a b ea eb e => d1 a (by rw [ea]; simp [dstL]) (by rw [eb]; simp [dstL, e])
    obtain ⟨k1, k2⟩ := c5 s box (fun w hw => (put_tm_ne (hxs w hw)).symm) b1 (by omega) (cutB_part hlen1 (by omega)).symm
    obtain ⟨l1, l2⟩ := b5 { s.put y.dst u with hp := s.hp.set i (cutB box q N) } (cutB box q N) (fun w hw => put_tm_ne (hys w hw)) (by simp [hlt]) (cutB_len hlen2) (cutB_part hlen2 (by omega))
    refine ⟨_, k1, ?_, k2, l2⟩
    have e : ({ ({ s.put y.dst u with hp := s.hp.set i (cutB box q N) } : St).put x.dst v with hp := (s.hp.set i (cutB box q N)).set i (cutB (cutB box q N) p M) } : St) =
        { ({ s.put x.dst v with hp := s.hp.set i (cutB box p M) } : St).put y.dst u with hp := (s.hp.set i (cutB box p M)).set i (cutB (cutB box p M) q N) } := by
      rw [List.set_set, List.set_set, cutB_comm hlen1 hlen2 hdis]
      congr 1
      cases hxd : x.dst with
      | none => cases hyd' : y.dst <;> rfl
      | some a => cases hyd' : y.dst with
        | none => rfl
        | some b =>
          have := hyd a b hxd hyd'
          simp only [St.put, St.mk.injEq, and_true]
          funext k
          by_cases e1 : k = a
          · subst e1; simp [this]
          · by_cases e2 : k = b
            · subst e2; simp [e1]
            · simp [e1, e2]
    rw [e] at l1
    exact l1
  · cases hl
/-! ### a slot's own handed on changes places with what does not look at it -/
theorem mv_loc {C n ops o s s1} (e : gstep C n ops o s s1) (hm : (labD C.P ops o s).mv = true) :
    ∃ t d, o.dst = some d ∧ t ∈ looksG ops o ∧ t ∈ (labD C.P ops o s).gone ∧ d ≠ t ∧ (labD C.P ops o s).rd = [] ∧ s1 = mu d (s.tm t) none (mu t .un none s) ∧
      ∀ s', Agree ops o [] s s' → gstep C n ops o s' (mu d (s.tm t) none (mu t .un none s')) := by
  obtain ⟨g, h1, h2, h3⟩ := e
  cases g with
  | false =>
    have hsk : skips ops o s = true := by simp [skips, h1]
    simp [labD, hsk] at hm
  | true =>
    have hsk : skips ops o s = false := by simp [skips, h1]
    simp only [labD, hsk, Bool.false_eq_true, if_false] at hm ⊢
    simp only [if_true] at h3
    unfold mvD at hm
    split at hm
    · rename_i t hop
      simp only [Bool.and_eq_true] at hm
      obtain ⟨⟨htk, hown⟩, hd⟩ := hm
      split at hd
      · rename_i d hdst
        have hdt : d ≠ t := by simpa using hd
        have htl : t ∈ looksD o := by simp [looksD, hop, Op.operands]
        have hst : ∀ s', hasOwn (s'.tm t) = true → stepD C.P n (takes ops o) o s' = if dstOk n o.dst then some ((s'.put (some t) .un).put (some d) (s'.tm t)) else none := by
          intro s' ho
          simp only [stepD, hop, moveD, ho, if_true, htk, hdst]
        have hto : ∀ s', opTo C n (takes ops o) o s' = fun s2 => stepD C.P n (takes ops o) o s' = some s2 := by
          intro s'
          funext s2
          simp only [opTo, hop]
        rw [hto] at h3
        rw [hst s hown, if_pos h2] at h3
        injection h3 with h3
        refine ⟨t, d, hdst, by simp only [looksG, List.mem_append]; exact .inr htl, ?_, hdt, by simp only [rdD, hop], h3.symm, fun s' ha => ⟨true, by rw [agree_guard ha]; exact h1, h2, ?_⟩⟩
        · have he : eatsT (takes ops o) o = true := by simp [eatsT, hop, htk]
          simp only [goneD, he, if_true]
          exact goneL_mem.2 ⟨htl, hown⟩
        · have htm : s'.tm t = s.tm t := ha.tm t (by simp only [looksG, List.mem_append]; exact .inr htl)
          simp only [if_true]
          rw [hto]
          rw [hst s' (by rw [htm]; exact hown), if_pos h2, htm]
          rfl
      · cases hd
    · cases hm
theorem mu2_tm {d t : Nat} {a b : DV} {s : St} {u : Nat} (h1 : u ≠ d) (h2 : u ≠ t) : (mu d a none (mu t b none s)).tm u = s.tm u := by
  rw [tm_mu h1, tm_mu h2]
theorem swapM1 {C n ops x y s s1 s2} (h1 : gstep C n ops x s s1) (h2 : gstep C n ops y s1 s2) (hm : (labD C.P ops x s).mv = true)
    (hd1 : disj (dstL x.dst) (looksG ops y ++ dstL y.dst) = true) (hd2 : disj (dstL y.dst) (looksG ops x) = true)
    (hg1 : disj (labD C.P ops x s).gone (looksG ops y) = true) (hg2 : disj (labD C.P ops y s1).gone (looksG ops x) = true) :
    ∃ s1', gstep C n ops y s s1' ∧ gstep C n ops x s1' s2 ∧ labD C.P ops y s = labD C.P ops y s1 ∧ labD C.P ops x s1' = labD C.P ops x s := by
  have d1 := disj_spec hd1
  have d2 := disj_spec hd2
  have g1 := disj_spec hg1
  have g2 := disj_spec hg2
  obtain ⟨t, d, hdx, htl, htg, hdt, hrd, rfl, hx⟩ := mv_loc h1 hm
  have k2 := gstep_keeps h2
  rw [lab_dst] at k2
  have ht_y : t ∉ looksG ops y := g1 t htg
  have hd_y : d ∉ looksG ops y := fun q => d1 d (by rw [hdx]; simp [dstL]) (by simp [q])
  have hyd : y.dst ≠ some d := fun q => d1 d (by rw [hdx]; simp [dstL]) (by rw [q]; simp [dstL])
  have hyt : y.dst ≠ some t := fun q => d2 t (by rw [q]; simp [dstL]) htl
  have hback : mu t (s.tm t) none (mu d (s.tm d) none (mu d (s.tm t) none (mu t .un none s))) = s := by
    simp only [mu, setO]
    congr 1
    funext i
    by_cases e1 : i = t
    · subst e1; simp [upd]
    · by_cases e2 : i = d
      · subst e2; simp [upd, e1]
      · simp [upd, e1, e2]
  have hm1 := gstep_mu (v := s.tm d) (ib := none) hd_y hyd (fun i _ => (fun j c h => by cases h)) (fun j b h => by cases h) h2
  have hm2 := gstep_mu (v := s.tm t) (ib := none) ht_y hyt (fun i _ => (fun j c h => by cases h)) (fun j b h => by cases h) hm1
  rw [hback] at hm2
  have hst : s2.tm t = .un := by
    rw [k2.tm t hyt (fun q => ht_y (lab_gone t q)), tm_mu (fun e => hdt e.symm)]
    simp [mu, upd]
  have hsd : s2.tm d = s.tm t := by
    rw [k2.tm d hyd (fun q => hd_y (lab_gone d q))]
    simp [mu, upd]
  have hag : Agree ops x [] s (mu t (s.tm t) none (mu d (s.tm d) none s2)) := by
    refine ⟨fun u hu => ?_, fun i hi => by cases hi⟩
    by_cases e1 : u = t
    · subst e1; simp [mu, upd]
    · by_cases e2 : u = d
      · subst e2; simp [mu, upd, e1]
      · rw [mu2_tm e1 e2, k2.tm u (fun q => d2 u (by rw [q]; simp [dstL]) hu) (fun q => g2 u q hu), mu2_tm e2 e1]
  refine ⟨_, hm2, ?_, ?_, ?_⟩
  · have := hx _ hag
    have e : mu d (s.tm t) none (mu t .un none (mu t (s.tm t) none (mu d (s.tm d) none s2))) = s2 := by
      simp only [mu, setO]
      cases s2 with
      | mk tm hp =>
        simp only at hst hsd ⊢
        congr 1
        funext i
        by_cases e1 : i = d
        · subst e1; simp [upd, hsd]
        · by_cases e2 : i = t
          · subst e2; simp [upd, e1, hst]
          · simp [upd, e1, e2]
    rw [e] at this
    exact this
  · refine lab_congr ⟨fun u hu => ?_, fun i hi => rfl⟩
    rw [mu2_tm (fun e => hd_y (by rw [← e]; exact hu)) (fun e => ht_y (by rw [← e]; exact hu))]
  · exact lab_congr (by rw [hrd]; exact hag)
theorem swapM2 {C n ops x y s s1 s2} (h1 : gstep C n ops x s s1) (h2 : gstep C n ops y s1 s2) (hm : (labD C.P ops y s1).mv = true)
    (hd1 : disj (dstL x.dst) (looksG ops y ++ dstL y.dst) = true) (hd2 : disj (dstL y.dst) (looksG ops x) = true)
    (hg1 : disj (labD C.P ops x s).gone (looksG ops y) = true) (hg2 : disj (labD C.P ops y s1).gone (looksG ops x) = true) :
    ∃ s1', gstep C n ops y s s1' ∧ gstep C n ops x s1' s2 ∧ labD C.P ops y s = labD C.P ops y s1 ∧ labD C.P ops x s1' = labD C.P ops x s := by
  have d1 := disj_spec hd1
  have d2 := disj_spec hd2
  have g1 := disj_spec hg1
  have g2 := disj_spec hg2
  obtain ⟨t, d, hdy, htl, htg, hdt, hrd, rfl, hy⟩ := mv_loc h2 hm
  have k1 := gstep_keeps h1
  rw [lab_dst] at k1
  have ht_x : t ∉ looksG ops x := g2 t htg
  have hd_x : d ∉ looksG ops x := d2 d (by rw [hdy]; simp [dstL])
  have hxd : x.dst ≠ some d := fun q => d1 d (by rw [q]; simp [dstL]) (by rw [hdy]; simp [dstL])
  have hxt : x.dst ≠ some t := fun q => d1 t (by rw [q]; simp [dstL]) (by simp [htl])
  have hag : Agree ops y [] s1 s := ⟨fun u hu => (k1.tm u (fun q => d1 u (by rw [q]; simp [dstL]) (by simp [hu])) (fun q => g1 u q hu)).symm, fun i hi => by cases hi⟩
  have hm1 := gstep_mu (v := .un) (ib := none) ht_x hxt (fun i _ => (fun j c h => by cases h)) (fun j b h => by cases h) h1
  have hm2 := gstep_mu (v := s1.tm t) (ib := none) hd_x hxd (fun i _ => (fun j c h => by cases h)) (fun j b h => by cases h) hm1
  refine ⟨_, hy _ hag, hm2, ?_, ?_⟩
  · exact lab_congr (by rw [hrd]; exact hag)
  · refine lab_congr ⟨fun u hu => ?_, fun i hi => rfl⟩
    rw [mu2_tm (fun e => hd_x (by rw [← e]; exact hu)) (fun e => ht_x (by rw [← e]; exact hu))]
def compatDyn (a b : Lab) : Bool := ((a.simple || b.simple) && disj a.gone b.looks && disj b.gone a.looks && disj a.wr b.rd && disj b.wr a.rd) || ldOK a.ld b.ld || ((a.mv || b.mv) && disj a.gone b.looks && disj b.gone a.looks)
def compat (a b : Lab) : Bool := disj (dstL a.dst) (b.looks ++ dstL b.dst) && disj (dstL b.dst) a.looks && compatDyn a b
theorem compat_of_old {a b : Lab} (h : compatO a b = true) : compat a b = true := by
  simp only [compatO, compat, compatDyn, Bool.and_eq_true, Bool.or_eq_true] at h ⊢
  obtain ⟨⟨⟨⟨⟨⟨p1, p2⟩, p3⟩, p4⟩, p5⟩, p6⟩, p7⟩ := h
  exact ⟨⟨p2, p3⟩, .inl (.inl ⟨⟨⟨⟨p1, p4⟩, p5⟩, p6⟩, p7⟩)⟩
theorem swap {C n ops x y s s1 s2} (h1 : gstep C n ops x s s1) (h2 : gstep C n ops y s1 s2) (hc : compat (labD C.P ops x s) (labD C.P ops y s1) = true)
    (hL : (labD C.P ops y s1).simple = true → ∀ i ∈ (labD C.P ops y s1).rd, i < s.hp.length) :
    ∃ s1', gstep C n ops y s s1' ∧ gstep C n ops x s1' s2 ∧ labD C.P ops y s = labD C.P ops y s1 ∧ labD C.P ops x s1' = labD C.P ops x s := by
  simp only [compat, compatDyn, Bool.and_eq_true, Bool.or_eq_true] at hc
  obtain ⟨⟨p2, p3⟩, hc⟩ := hc
  rcases hc with (⟨⟨⟨⟨p1, p4⟩, p5⟩, p6⟩, p7⟩ | hc) | ⟨⟨p1, p4⟩, p5⟩
  · refine swapO h1 h2 ?_ hL
    simp only [compatO, Bool.and_eq_true, Bool.or_eq_true]
    exact ⟨⟨⟨⟨⟨⟨p1, p2⟩, p3⟩, p4⟩, p5⟩, p6⟩, p7⟩
  · rw [lab_dst, lab_dst, lab_looks] at p2
    rw [lab_dst, lab_looks] at p3
    exact swapL h1 h2 p2 p3 hc
  · rw [lab_dst, lab_dst, lab_looks] at p2
    rw [lab_dst, lab_looks] at p3
    rw [lab_looks] at p4 p5
    rcases p1 with p1 | p1
    · exact swapM1 h1 h2 p1 p2 p3 p4 p5
    · exact swapM2 h1 h2 p1 p2 p3 p4 p5
end Go.Proofs.Dm

set_option linter.unusedVariables false
set_option linter.unusedSimpArgs false
namespace Go.Proofs.Dm
open Go Go.RowKit

/-- Steps in an order, each with its label. -/
def LChain (C : Ctx) (n : Nat) (ops : List Oper) (F : Nat → Lab) : List Nat → St → St → Prop
  | [], s, s' => s = s'
  | i :: r, s, s' => ∃ o s1, ops[i]? = some o ∧ labD C.P ops o s = F i ∧ gstep C n ops o s s1 ∧ LChain C n ops F r s1 s'

theorem front {C n ops F} {i : Nat} {b : List Nat} {s' : St} : ∀ {a : List Nat} {s : St}, (∀ j ∈ a, compat (F j) (F i) = true) → (a ≠ [] → (F i).simple = true → ∀ k ∈ (F i).rd, k < s.hp.length) →
    LChain C n ops F (a ++ i :: b) s s' → LChain C n ops F (i :: (a ++ b)) s s'
  | [], s, _, _, e => e
  | j :: a, s, hc, hL, e => by
    obtain ⟨oj, s1, h1, h2, h3, h4⟩ := e
    have k := gstep_keeps h3
    have ih := front (a := a) (s := s1) (fun x hx => hc x (by simp [hx])) (fun _ hs k' hk => Nat.lt_of_lt_of_le (hL (by simp) hs k' hk) k.len) h4
    obtain ⟨oi, s2, q1, q2, q3, q4⟩ := ih
    obtain ⟨s1', r1, r2, r3, r4⟩ := swap h3 q3 (by rw [h2, q2]; exact hc j (by simp)) (by rw [q2]; exact hL (by simp))
    exact ⟨oi, s1', q1, by rw [r3]; exact q2, r1, oj, s2, h1, by rw [r4]; exact h2, r2, q4⟩

/-! ### which operations are ordered -/
def dirOn (o : Oper) : List Nat := (o.after.toList.filter (Region.binds .any)).map (·.on)
def maskL (acc : List Nat) : List Nat → Nat
  | [] => 0
  | j :: js => 2 ^ j ||| acc.getD j 0 ||| maskL acc js
def cloF : List Oper → List Nat → List Nat
  | [], acc => acc
  | o :: os, acc => cloF os (acc ++ [maskL acc (dirOn o)])
theorem maskL_spec {acc : List Nat} {k : Nat} : ∀ {js : List Nat}, (maskL acc js).testBit k = true → ∃ j ∈ js, j = k ∨ (acc.getD j 0).testBit k = true
  | [], h => by simp [maskL] at h
  | j :: js, h => by
    simp only [maskL, Nat.testBit_or, Bool.or_eq_true, Nat.testBit_two_pow, decide_eq_true_eq] at h
    rcases h with (h | h) | h
    · exact ⟨j, by simp, .inl h⟩
    · exact ⟨j, by simp, .inr h⟩
    · obtain ⟨j', h1, h2⟩ := maskL_spec h
      exact ⟨j', by simp [h1], h2⟩
theorem cloF_spec : ∀ (os : List Oper) (acc : List Nat), (cloF os acc).length = acc.length + os.length ∧ (∀ i, i < acc.length → (cloF os acc)[i]? = acc[i]?) ∧
    ∀ (i : Nat) (o : Oper), os[i]? = some o → (cloF os acc)[acc.length + i]? = some (maskL ((cloF os acc).take (acc.length + i)) (dirOn o))
  | [], acc => by simp [cloF]
  | o :: os, acc => by
    obtain ⟨h1, h2, h3⟩ := cloF_spec os (acc ++ [maskL acc (dirOn o)])
    simp only [cloF]
    refine ⟨by rw [h1]; simp; omega, fun i hi => by rw [h2 i (by simp; omega), List.getElem?_append_left hi], fun i o' ho => ?_⟩
    cases i with
    | zero =>
      simp only [List.getElem?_cons_zero, Option.some.injEq] at ho
      subst ho
      have htake : (cloF os (acc ++ [maskL acc (dirOn o)])).take acc.length = acc := by
        apply List.ext_getElem?
        intro i
        rw [List.getElem?_take]
        split
        · rename_i hi
          rw [h2 i (by simp; omega), List.getElem?_append_left hi]
        · rename_i hi
          exact (List.getElem?_eq_none (by omega)).symm
      rw [Nat.add_zero, htake, h2 acc.length (by simp)]
      simp
    | succ i =>
      have := h3 i o' (by simpa using ho)
      simp only [List.length_append, List.length_cons, List.length_nil, Nat.zero_add] at this
      have e : acc.length + (i + 1) = acc.length + 1 + i := by omega
      rw [e]; exact this
def masks (ops : List Oper) : List Nat := cloF ops []

def downC (ops : List Oper) (L : Nat → Bool) : Prop := ∀ (i : Nat) (o : Oper), ops[i]? = some o → L i = true → ∀ j ∈ dirOn o, L j = true
theorem masks_down {ops : List Oper} {L : Nat → Bool} (hd : downC ops L) {k : Nat} : ∀ (i : Nat) (o : Oper), ops[i]? = some o → (∀ j ∈ dirOn o, L j = true) → ((masks ops).getD i 0).testBit k = true → L k = true := by
  intro i
  induction i using Nat.strongRecOn with
  | _ i ih =>
    intro o ho hready hbit
    obtain ⟨h1, h2, h3⟩ := cloF_spec ops []
    have := h3 i o ho
    simp only [List.length_nil, Nat.zero_add] at this
    rw [List.getD_eq_getElem?_getD] at hbit
    unfold masks at hbit
    rw [this, Option.getD_some] at hbit
    obtain ⟨j, q1, q2⟩ := maskL_spec hbit
    rcases q2 with q2 | q2
    · subst q2; exact hready j q1
    · rw [List.getD_eq_getElem?_getD, List.getElem?_take] at q2
      split at q2
      · rename_i hji
        have hj : j < ops.length := Nat.lt_trans hji (List.getElem?_eq_some_iff.1 ho).1
        refine ih j hji ops[j] (List.getElem?_eq_getElem hj) (fun k' hk' => hd j _ (List.getElem?_eq_getElem hj) (hready j q1) k' hk') ?_
        rw [List.getD_eq_getElem?_getD]
        exact q2
      · simp at q2

/-! ### any order -/
def remL (n : Nat) (listed : Array Bool) : List Nat := (List.range n).filter fun i => !listed.getD i true
theorem remL_mem {n : Nat} {listed : Array Bool} {i : Nat} : i ∈ remL n listed ↔ i < n ∧ listed.getD i true = false := by
  simp [remL]
theorem range_split {n : Nat} (p : Nat → Bool) {i : Nat} (h : i ∈ (List.range n).filter p) :
    ∃ a b, (List.range n).filter p = a ++ i :: b ∧ (∀ j ∈ a, j < i) ∧ (List.range n).filter (fun j => p j && decide (j ≠ i)) = a ++ b := by
  have hs : ((List.range n).filter p).Pairwise (· < ·) := List.Pairwise.filter _ List.pairwise_lt_range
  obtain ⟨a, b, hab⟩ := List.append_of_mem h
  refine ⟨a, b, hab, ?_, ?_⟩
  · rw [hab] at hs
    intro j hj
    exact (List.pairwise_append.1 hs).2.2 j hj i (by simp)
  · have e : (List.range n).filter (fun j => p j && decide (j ≠ i)) = ((List.range n).filter p).filter (fun j => decide (j ≠ i)) := by
      rw [List.filter_filter]
      congr 1
      funext j
      rw [Bool.and_comm]
    rw [e, hab, List.filter_append, List.filter_cons_of_neg (by simp)]
    rw [hab] at hs
    obtain ⟨h1, h2, h3⟩ := List.pairwise_append.1 hs
    congr 1
    · rw [List.filter_eq_self]
      intro j hj
      have := h3 j hj i (by simp)
      simp; omega
    · rw [List.filter_eq_self]
      intro j hj
      have := (List.pairwise_cons.1 h2).1 j hj
      simp; omega

theorem draw_any {C w0 h0 ow0 r0 n} {ops : List Oper} {F : Nat → Lab} {Q : Exit → Act → World → Prop} {s' : St} {L0 : Nat}
    (hedge : ∀ (i : Nat) (o : Oper), ops[i]? = some o → ∀ j ∈ dirOn o, j < i)
    (hpair : ∀ i j, i < ops.length → j < i → ((masks ops).getD i 0).testBit j = true ∨ compat (F j) (F i) = true)
    (hlow : ∀ i j, i < ops.length → j < i → ((masks ops).getD i 0).testBit j = false → (F i).simple = true → ∀ k ∈ (F i).rd, k < L0) (hK : Good C w0 h0 ow0 r0 n s' (Q .normal)) :
    ∀ (fuel : Nat) (listed : Array Bool) (s : St), listed.size = ops.length → downC ops (fun i => listed.getD i false) → LChain C n ops F (remL ops.length listed) s s' → (remL ops.length listed).length ≤ fuel →
      L0 ≤ s.hp.length → Good C w0 h0 ow0 r0 n s (fun a w => wpAny C.P .any ops.toArray Q fuel listed a w) := by
  have listed_of : ∀ (listed : Array Bool) (i : Nat), listed.size = ops.length → i < ops.length → i ∉ remL ops.length listed → listed.getD i false = true := by
    intro listed i hsz hi hn
    have : listed.getD i true ≠ false := fun q => hn (remL_mem.2 ⟨hi, q⟩)
    have hl : i < listed.size := by omega
    rw [Array.getD_eq_getD_getElem?, Array.getElem?_eq_getElem hl] at this ⊢
    simpa using this
  have ready_mem : ∀ (listed : Array Bool) (i : Nat), i ∈ Region.ready .any ops.toArray listed ↔ i ∈ remL ops.length listed ∧ ∃ o, ops[i]? = some o ∧ ∀ j ∈ dirOn o, listed.getD j false = true := by
    intro listed i
    simp only [Region.ready, List.mem_filter, List.mem_range, List.size_toArray, Bool.and_eq_true, Bool.not_eq_true', remL_mem, List.getElem?_toArray]
    constructor
    · rintro ⟨h1, h2, h3⟩
      rw [List.getElem?_eq_getElem h1] at h3 ⊢
      simp only [Option.map_some, Option.getD_some] at h3
      refine ⟨⟨h1, h2⟩, _, rfl, fun j hj => ?_⟩
      simp only [dirOn, List.mem_map, List.mem_filter] at hj
      obtain ⟨e, ⟨he1, he2⟩, he3⟩ := hj
      have := Array.all_eq_true_iff_forall_mem.1 h3 e (by simpa using he1)
      rw [he2] at this
      subst he3
      simpa using this
    · rintro ⟨⟨h1, h2⟩, o, h3, h4⟩
      refine ⟨h1, h2, ?_⟩
      rw [h3]
      simp only [Option.map_some, Option.getD_some]
      rw [Array.all_eq_true_iff_forall_mem]
      intro e he
      by_cases hb : Region.binds .any e = true
      · have := h4 e.on (by
          simp only [dirOn, List.mem_map, List.mem_filter]
          exact ⟨e, ⟨by simpa using he, hb⟩, rfl⟩)
        rw [this]; simp
      · simp [hb]
  have rem_ready : ∀ (listed : Array Bool), listed.size = ops.length → Region.ready .any ops.toArray listed = [] → remL ops.length listed = [] := by
    intro listed hsz hr
    rcases hrem : remL ops.length listed with _ | ⟨i, rest⟩
    · rfl
    · exfalso
      have hi : i ∈ remL ops.length listed := by rw [hrem]; simp
      have hs : (remL ops.length listed).Pairwise (· < ·) := List.Pairwise.filter _ List.pairwise_lt_range
      rw [hrem] at hs
      have hlt := (remL_mem.1 hi).1
      have : i ∈ Region.ready .any ops.toArray listed := by
        rw [ready_mem]
        refine ⟨hi, ops[i], List.getElem?_eq_getElem hlt, fun j hj => ?_⟩
        have hji := hedge i _ (List.getElem?_eq_getElem hlt) j hj
        refine listed_of listed j hsz (by omega) fun hjm => ?_
        rw [hrem] at hjm
        rcases List.mem_cons.1 hjm with e | e
        · omega
        · have := (List.pairwise_cons.1 hs).1 j e
          omega
      rw [hr] at this
      cases this
  intro fuel
  induction fuel with
  | zero =>
    intro listed s hsz hd hch hfuel hL a w h ow ρ r
    have hrem : remL ops.length listed = [] := List.eq_nil_of_length_eq_zero (by omega)
    rw [hrem] at hch
    simp only [LChain] at hch
    subst hch
    refine ⟨?_, hK a w h ow ρ r⟩
    apply List.eq_nil_iff_forall_not_mem.2
    intro i hi
    have := ((ready_mem listed i).1 hi).1
    rw [hrem] at this
    cases this
  | succ fuel ih =>
    intro listed s hsz hd hch hfuel hL a w h ow ρ r
    refine ⟨fun hr => ?_, fun i hi => ?_⟩
    · rw [rem_ready listed hsz hr] at hch
      simp only [LChain] at hch
      subst hch
      exact hK a w h ow ρ r
    · obtain ⟨him, o, ho, hdir⟩ := (ready_mem listed i).1 hi
      obtain ⟨pa, pb, hab, hlt, hab'⟩ := range_split (fun j => !listed.getD j true) him
      have hilt := (remL_mem.1 him).1
      have hrem : remL ops.length listed = pa ++ i :: pb := hab
      rw [hrem] at hch hfuel
      have hun : ∀ j ∈ pa, ((masks ops).getD i 0).testBit j = false := by
        intro j hj
        rcases hq : ((masks ops).getD i 0).testBit j with _ | _
        · rfl
        · exfalso
          have q := hq
          have hji := hlt j hj
          have hlj := masks_down hd i o ho hdir q
          have hjm : j ∈ remL ops.length listed := by rw [hrem]; simp [hj]
          have := (remL_mem.1 hjm).2
          have hjs : j < listed.size := by omega
          simp only [Array.getD_eq_getD_getElem?, Array.getElem?_eq_getElem hjs, Option.getD_some] at hlj this
          rw [this] at hlj
          cases hlj
      have hcomp : ∀ j ∈ pa, compat (F j) (F i) = true := by
        intro j hj
        rcases hpair i j hilt (hlt j hj) with q | q
        · rw [hun j hj] at q; cases q
        · exact q
      have hfr := front hcomp (fun hne hs k hk => by
        obtain ⟨j, hj⟩ := List.exists_mem_of_ne_nil pa hne
        exact Nat.lt_of_lt_of_le (hlow i j hilt (hlt j hj) (hun j hj) hs k hk) hL) hch
      obtain ⟨o', s1, q1, q2, q3, q4⟩ := hfr
      rw [ho] at q1; injection q1 with q1; subst q1
      have hset : (listed.setIfInBounds i true).size = ops.length := by simpa using hsz
      have hget : ∀ j (d : Bool), (listed.setIfInBounds i true).getD j d = if j = i then true else listed.getD j d := by
        intro j d
        simp only [Array.getD_eq_getD_getElem?, Array.getElem?_setIfInBounds]
        by_cases e : i = j
        · subst e
          rw [if_pos rfl, if_pos (by omega), if_pos rfl]; rfl
        · rw [if_neg e, if_neg (fun q => e q.symm)]
      have hrem' : remL ops.length (listed.setIfInBounds i true) = pa ++ pb := by
        rw [← hab']
        unfold remL
        congr 1
        funext j
        rw [hget]
        by_cases e : j = i <;> simp [e]
      have hgood : Good C w0 h0 ow0 r0 n s1 (fun a w => wpAny C.P .any ops.toArray Q fuel (listed.setIfInBounds i true) a w) := by
        refine ih (listed.setIfInBounds i true) s1 hset ?_ (by rw [hrem']; exact q4) (by rw [hrem']; simp at hfuel ⊢; omega) (Nat.le_trans hL (gstep_keeps q3).len)
        intro j oj hoj hj k hk
        dsimp only at hj ⊢
        rw [hget] at hj ⊢
        by_cases e : j = i
        · subst e
          rw [ho] at hoj; injection hoj with hoj; subst hoj
          have := hdir k hk
          split
          · rfl
          · exact this
        · rw [if_neg e] at hj
          have := hd j oj hoj hj k hk
          split
          · rfl
          · exact this
      obtain ⟨g, g1, g2, g3⟩ := q3
      have hw := guardD_ok r g1
      unfold wpOp
      rw [List.getElem?_toArray, ho]
      dsimp only
      cases g with
      | true =>
        rw [if_pos hw]
        simp only [if_true] at g3
        exact .inl (opTo_ok g3 a w h ow ρ r _ Q hgood)
      | false =>
        rw [if_neg (by rw [hw]; simp)]
        simp only [Bool.false_eq_true, if_false] at g3
        subst g3
        exact hgood _ _ _ _ _ (r.put o.dst g2 fun O => by simp only [RepD])

/-! ### the statement -/
def edgesOK (ops : List Oper) : Bool := (List.range ops.length).all fun i => ((ops[i]?).map fun o => (dirOn o).all fun j => decide (j < i)).getD true
/-- Only reckons: no box, nothing handed on. -/
def plainS (tk : Bool) (o : Oper) : Bool :=
  match o.op with
  | .move _ => !tk
  | .assign _ | .load _ _ | .store _ _ _ | .alloc _ | .box _ _ | .build _ _ | .buildSlice _ _ _ | .makeSlice _ _ _ => false
  | .call c => match c.callee with
    | .builtin .append => false
    | .builtin .copy => false
    | .builtin .clear => false
    | .builtin _ => true
    | _ => false
  | _ => true
def noBoxS (o : Oper) : Bool :=
  match o.op with
  | .load _ _ | .store _ _ _ => false
  | .call c => match c.callee with
    | .value _ => false
    | .builtin .append => false
    | .builtin .copy => false
    | .builtin .clear => false
    | _ => true
  | _ => true
def noWrS (tk : Bool) (o : Oper) : Bool := noBoxS o || match o.op with
  | .load _ _ => !tk
  | _ => false
def simpS (tk : Bool) (o : Oper) : Bool := o.dst.isSome && (plainS tk o || match o.op with
  | .load _ _ => true
  | .buildSlice _ _ _ => true
  | _ => false)
/-- Two operations' slots are apart. -/
def slotsS (ops : List Oper) (a b : Oper) : Bool := disj (dstL a.dst) (looksG ops b ++ dstL b.dst) && disj (dstL b.dst) (looksG ops a)
/-- Two that may change places whatever their slots hold. -/
def freeS (ops : List Oper) (a b : Oper) : Bool :=
  (simpS (takes ops a) a || simpS (takes ops b) b) && (!(eatsT (takes ops a) a) || disj (looksD a) (looksG ops b)) && (!(eatsT (takes ops b) b) || disj (looksD b) (looksG ops a)) && (noBoxS a || noBoxS b || (noWrS (takes ops a) a && noWrS (takes ops b) b))
def opAt (ops : List Oper) (i : Nat) : Oper := ops.getD i default
def unord (ops : List Oper) : List (Nat × Nat) :=
  (List.range ops.length).flatMap fun i => ((List.range i).filter fun j => !(((masks ops).getD i 0).testBit j)).map fun j => (j, i)
def drawStat (ops : List Oper) : Bool := edgesOK ops && (unord ops).all fun p => slotsS ops (opAt ops p.1) (opAt ops p.2)
/-- The pairs that must be looked at with what the slots hold. -/
def dynPairs (ops : List Oper) : List (Nat × Nat) := (unord ops).filter fun p => !(freeS ops (opAt ops p.1) (opAt ops p.2))
/-- The loads that another operation may come ahead of. -/
def lowIdx (ops : List Oper) : List Nat := (((unord ops).map (·.2)).filter fun i => !(noBoxS (opAt ops i))).eraseDups
def emptyLab : Lab := ⟨none, [], [], [], [], false, none, false⟩
def pairsOK (labs : List Lab) : List (Nat × Nat) → Prop
  | [] => True
  | (j, i) :: ps => compatDyn (labs.getD j emptyLab) (labs.getD i emptyLab) = true ∧ pairsOK labs ps
theorem pairsOK_spec {labs : List Lab} : ∀ {ps : List (Nat × Nat)}, pairsOK labs ps → ∀ p ∈ ps, compatDyn (labs.getD p.1 emptyLab) (labs.getD p.2 emptyLab) = true
  | [], _, p, hp => by simp at hp
  | (j, i) :: ps, h, p, hp => by
    rcases List.mem_cons.1 hp with e | e
    · subst e; exact h.1
    · exact pairsOK_spec h.2 p e
def allLt (m : Nat) : List Nat → Prop
  | [] => True
  | k :: ks => k < m ∧ allLt m ks
theorem allLt_spec {m : Nat} : ∀ {ks : List Nat}, allLt m ks → ∀ k ∈ ks, k < m
  | [], _, k, hk => by simp at hk
  | x :: ks, h, k, hk => by
    rcases List.mem_cons.1 hk with e | e
    · subst e; exact h.1
    · exact allLt_spec h.2 k e
def lowOK (m : Nat) (labs : List Lab) : List Nat → Prop
  | [] => True
  | i :: is => allLt m (labs.getD i emptyLab).rd ∧ lowOK m labs is
theorem lowOK_spec {m : Nat} {labs : List Lab} : ∀ {is : List Nat}, lowOK m labs is → ∀ i ∈ is, ∀ k ∈ (labs.getD i emptyLab).rd, k < m
  | [], _, i, hi => by simp at hi
  | x :: is, h, i, hi => by
    rcases List.mem_cons.1 hi with e | e
    · subst e; exact allLt_spec h.1
    · exact lowOK_spec h.2 i e
def drawTo (C : Ctx) (n : Nat) (ops : List Oper) (s s' : St) : Prop :=
  C.P.follows .mixedOrders = true ∧ drawStat ops = true ∧ ∃ labs : List Lab, labs.length = ops.length ∧ LChain C n ops (fun i => labs.getD i emptyLab) (List.range ops.length) s s' ∧
    pairsOK labs (dynPairs ops) ∧ lowOK s.hp.length labs (lowIdx ops)

theorem disj_nil_left (b : List Nat) : disj [] b = true := rfl
theorem disj_nil_right (a : List Nat) : disj a [] = true := by simp [disj]
theorem disj_mono {a b a' b' : List Nat} (h : disj a b = true) (ha : ∀ x ∈ a', x ∈ a) (hb : ∀ x ∈ b', x ∈ b) : disj a' b' = true := by
  have := disj_spec h
  simp only [disj, List.all_eq_true]
  intro x hx
  have h2 := this x (ha x hx)
  have : x ∉ b' := fun q => h2 (hb x q)
  simp [this]
theorem noBox_rd {P ops o s} (h : noBoxS o = true) : (labD P ops o s).rd = [] := by
  unfold labD
  split
  · rfl
  · dsimp only
    unfold rdD
    split
    · rename_i t x hop; simp [noBoxS, hop] at h
    · rename_i t x y hop; simp [noBoxS, hop] at h
    · rename_i c hop
      cases hc : c.callee with
      | value x => simp [noBoxS, hop, hc] at h
      | builtin b => cases b <;> first | rfl | (simp [noBoxS, hop, hc] at h)
      | _ => rfl
    · rfl
theorem noBox_wr {P ops o s} (h : noBoxS o = true) : (labD P ops o s).wr = [] := by
  have := noBox_rd (P := P) (ops := ops) (s := s) h
  apply List.eq_nil_iff_forall_not_mem.2
  intro x hx
  have := lab_wr x hx
  rw [noBox_rd h] at this
  cases this
theorem plain_simple {tk : Bool} {o : Oper} {s : St} (h : plainS tk o = true) : simpleD tk o s = true := by
  unfold plainS at h
  unfold simpleD
  cases hop : o.op with
  | call c =>
    rw [hop] at h
    dsimp only at h ⊢
    cases hc : c.callee with
    | builtin b => rw [hc] at h; cases b <;> simp_all
    | _ => rw [hc] at h; simp at h
  | move x => rw [hop] at h; simpa using Or.inl h
  | _ => rw [hop] at h; first | done | rfl | (simp at h)
theorem noWr_wr {P ops o s} (h : noWrS (takes ops o) o = true) : (labD P ops o s).wr = [] := by
  unfold noWrS at h
  cases hb : noBoxS o with
  | true => exact noBox_wr hb
  | false =>
    rw [hb] at h
    simp only [Bool.false_or] at h
    split at h
    · rename_i t x hop
      simp only [Bool.not_eq_true'] at h
      unfold labD
      split
      · rfl
      · dsimp only
        unfold wrD
        rw [hop, h]
        dsimp only
        split
        · split
          · simp
          · rfl
        · rfl
    · cases h
theorem simpS_lab {P ops o s} (h : simpS (takes ops o) o = true) : (labD P ops o s).simple = true := by
  simp only [simpS, Bool.and_eq_true, Bool.or_eq_true] at h
  obtain ⟨hd, h⟩ := h
  unfold labD
  split
  · exact hd
  · dsimp only
    rw [hd, Bool.true_and]
    rcases h with h | h
    · exact plain_simple h
    · unfold simpleD
      split at h
      · rename_i hop; simp [hop]
      · rename_i hop; simp [hop]
      · cases h
theorem free_compat {P ops a b s t} (hs : slotsS ops a b = true) (h : freeS ops a b = true) : compat (labD P ops a s) (labD P ops b t) = true := by
  simp only [freeS, Bool.and_eq_true, Bool.or_eq_true] at h
  obtain ⟨⟨⟨h1, h2⟩, h3⟩, h4⟩ := h
  simp only [slotsS, Bool.and_eq_true] at hs
  refine compat_of_old ?_
  simp only [compatO, Bool.and_eq_true, Bool.or_eq_true, lab_dst, lab_looks]
  have goneS : ∀ (o o' : Oper) (u : St), (!(eatsT (takes ops o) o)) = true ∨ disj (looksD o) (looksG ops o') = true → disj (labD P ops o u).gone (looksG ops o') = true := by
    intro o o' u hq
    rcases hq with q | q
    · have : (labD P ops o u).gone = [] := by
        unfold labD
        split
        · rfl
        · simp only [goneD]
          simp only [Bool.not_eq_true'] at q
          rw [q]; rfl
      rw [this]; rfl
    · refine disj_mono q (fun x hx => ?_) (fun x hx => hx)
      unfold labD at hx
      split at hx
      · cases hx
      · exact goneD_sub x hx
  refine ⟨⟨⟨⟨⟨⟨?_, hs.1⟩, hs.2⟩, goneS a b s h2⟩, goneS b a t h3⟩, ?_⟩, ?_⟩
  · rcases h1 with q | q
    · exact .inl (simpS_lab q)
    · exact .inr (simpS_lab q)
  · rcases h4 with (q | q) | q
    · rw [noBox_wr q]; rfl
    · rw [noBox_rd q]; exact disj_nil_right _
    · rw [noWr_wr q.1]; rfl
  · rcases h4 with (q | q) | q
    · rw [noBox_rd q]; exact disj_nil_right _
    · rw [noBox_wr q]; rfl
    · rw [noWr_wr q.2]; rfl

theorem Rel.drew {C w0 h0 ow0 r0 n s a w h ow ρ} (r : Rel C w0 h0 ow0 r0 n s a w h ow ρ) : Rel C w0 h0 ow0 r0 n s a { w with drawn := w.drawn + 1 } h ow ρ := by
  have hst : Stable w h { w with drawn := w.drawn + 1 } h := ⟨fun _ => Nat.le_refl _, fun _ _ _ => rfl, fun b cs T f q => ⟨cs, T, f, q, rfl⟩⟩
  refine ⟨⟨r.glob.nb, r.glob.eq⟩, ⟨⟨r.fr.st.mono, r.fr.st.cell, r.fr.st.keep⟩, r.fr.size, r.fr.os, r.fr.tape, r.fr.output, r.fr.keep⟩, ⟨r.hr.len, fun id box b h1 h2 hne => ?_, r.hr.lt, r.hr.hz⟩, r.defers, r.size, fun i => ?_, r.dom, r.pre⟩
  · obtain ⟨p1, p2, cs, T, hh, hl0, hrr⟩ := r.hr.box id box b h1 h2 hne
    exact ⟨p1, p2, cs, T, hh, hl0, RepDs.step hst (fun _ _ h => h) box _ _ 0 _ (fun g p ho => ⟨rfl, rfl, ho⟩) hrr⟩
  · exact RepD.step hst (fun _ _ h => h) _ _ _ _ (fun g p ho => ⟨rfl, rfl, ho⟩) (r.tm i)

theorem LChain.lab {C n ops F} : ∀ {l : List Nat} {s s' : St}, LChain C n ops F l s s' → ∀ i ∈ l, ∃ o t, ops[i]? = some o ∧ F i = labD C.P ops o t
  | [], s, s', e, i, hi => by simp at hi
  | j :: l, s, s', e, i, hi => by
    obtain ⟨o, s1, h1, h2, h3, h4⟩ := e
    rcases List.mem_cons.1 hi with q | q
    · subst q; exact ⟨o, s, h1, h2.symm⟩
    · exact LChain.lab h4 i q

theorem drawTo_ok {C w0 h0 ow0 r0 n} {id : Nat} {ops : List Oper} {s s' : St} (e : drawTo C n ops s s') {Q : Exit → Act → World → Prop} (hK : Good C w0 h0 ow0 r0 n s' (Q .normal)) :
    Good C w0 h0 ow0 r0 n s (fun a w => (Code.region id ops.toArray true).wp C.P Q a w) := by
  obtain ⟨hm, hstat, labs, hlen, hch, hpair, hlow⟩ := e
  simp only [drawStat, Bool.and_eq_true] at hstat
  obtain ⟨hedge, hslots⟩ := hstat
  intro a w h ow ρ r
  refine wp_region_any hm ?_
  have hrem : remL ops.length (Array.replicate ops.length false) = List.range ops.length := by
    unfold remL
    rw [List.filter_eq_self]
    intro i hi
    have : i < ops.length := by simpa using hi
    simp [Array.getD_eq_getD_getElem?, this]
  have hsz : ops.toArray.size = ops.length := by simp
  have hlab : ∀ i, i < ops.length → ∃ t, labs.getD i emptyLab = labD C.P ops (opAt ops i) t := by
    intro i hi
    obtain ⟨o, t, q1, q2⟩ := hch.lab i (by simpa using hi)
    refine ⟨t, ?_⟩
    have : opAt ops i = o := by unfold opAt; rw [List.getD_eq_getElem?_getD, q1]; rfl
    rw [this]; exact q2
  have hun : ∀ i j, i < ops.length → j < i → ((masks ops).getD i 0).testBit j = false → (j, i) ∈ unord ops := by
    intro i j hi hj hb
    simp only [unord, List.mem_flatMap, List.mem_map, List.mem_filter, List.mem_range]
    exact ⟨i, hi, j, ⟨hj, by rw [hb]; rfl⟩, rfl⟩
  rw [hsz]
  refine draw_any (F := fun i => labs.getD i emptyLab) (L0 := s.hp.length) ?_ ?_ ?_ hK ops.length (Array.replicate ops.length false) s (by simp) ?_ (by rw [hrem]; exact hch) (by rw [hrem]; simp) (Nat.le_refl _) a _ h ow ρ r.drew
  · intro i o ho j hj
    have hi := (List.getElem?_eq_some_iff.1 ho).1
    have := List.all_eq_true.1 hedge i (by simpa using hi)
    rw [ho] at this
    simp only [Option.map_some, Option.getD_some] at this
    have := List.all_eq_true.1 this j hj
    simpa using this
  · intro i j hi hj
    rcases hb : ((masks ops).getD i 0).testBit j with _ | _
    · refine .inr ?_
      have hp := hun i j hi hj hb
      have hsl := List.all_eq_true.1 hslots _ hp
      obtain ⟨t1, e1⟩ := hlab j (by omega)
      obtain ⟨t2, e2⟩ := hlab i hi
      by_cases hf : freeS ops (opAt ops j) (opAt ops i) = true
      · show compat (labs.getD j emptyLab) (labs.getD i emptyLab) = true
        rw [e1, e2]; exact free_compat hsl hf
      · have := pairsOK_spec hpair (j, i) (by simp only [dynPairs, List.mem_filter]; exact ⟨hp, by simpa using hf⟩)
        have this : compatDyn (labs.getD j emptyLab) (labs.getD i emptyLab) = true := this
        show compat (labs.getD j emptyLab) (labs.getD i emptyLab) = true
        simp only [slotsS, Bool.and_eq_true] at hsl
        rw [e1, e2] at this ⊢
        simp only [compat, Bool.and_eq_true, lab_dst, lab_looks]
        exact ⟨⟨hsl.1, hsl.2⟩, this⟩
    · exact .inl rfl
  · intro i j hi hj hb hs k hk
    have hp := hun i j hi hj hb
    by_cases hn : noBoxS (opAt ops i) = true
    · obtain ⟨t2, e2⟩ := hlab i hi
      have hk : k ∈ (labs.getD i emptyLab).rd := hk
      rw [e2, noBox_rd hn] at hk
      cases hk
    · refine lowOK_spec hlow i ?_ k hk
      simp only [lowIdx, List.mem_eraseDups, List.mem_filter, List.mem_map]
      exact ⟨⟨(j, i), hp, rfl⟩, by simpa using hn⟩
  · intro i o ho hl
    have : (Array.replicate ops.length false).getD i false = false := by
      rw [Array.getD_eq_getD_getElem?]
      by_cases hi : i < ops.length <;> simp [hi]
    have hl : (Array.replicate ops.length false).getD i false = true := hl
    rw [this] at hl
    cases hl

/-- The same, handed on: labels are gathered on the way. -/
def opsLab (C : Ctx) (n : Nat) (ops : List Oper) : List Oper → List Lab → (List Lab → St → Prop) → St → Prop
  | [], acc, k, s => k acc s
  | o :: rest, acc, k, s => match o.guard with
    | none => dstOk n o.dst = true ∧ opWp C n (takes ops o) o (opsLab C n ops rest (acc ++ [labD C.P ops o s]) k) s
    | some (j, want) => match (ops[j]?).bind (·.dst) with
      | some t => match s.tm t with
        | .p (.bool b) => dstOk n o.dst = true ∧ IfGoal (b == want) (opWp C n (takes ops o) o (opsLab C n ops rest (acc ++ [labD C.P ops o s]) k)) (fun s' => opsLab C n ops rest (acc ++ [labD C.P ops o s]) k (s'.put o.dst .ud)) s
        | .ud => dstOk n o.dst = true ∧ opsLab C n ops rest (acc ++ [labD C.P ops o s]) k (s.put o.dst .ud)
        | _ => False
      | none => False
/-- What the screens leave to be looked at. -/
def LabGoal (ps : List (Nat × Nat)) (ls : List Nat) (m : Nat) (k : St → Prop) (labs : List Lab) (s : St) : Prop := pairsOK labs ps ∧ lowOK m labs ls ∧ k s
def drawWp (C : Ctx) (n : Nat) (ops : List Oper) (k : St → Prop) (s : St) : Prop :=
  C.P.follows .mixedOrders = true ∧ drawStat ops = true ∧ opsLab C n ops ops [] (LabGoal (dynPairs ops) (lowIdx ops) s.hp.length k) s
theorem drawWp.intro {C n} {ops : List Oper} {k : St → Prop} {s : St} (ps : List (Nat × Nat)) (ls : List Nat) (h1 : C.P.follows .mixedOrders = true) (h2 : drawStat ops = true) (h3 : dynPairs ops = ps) (h4 : lowIdx ops = ls)
    (h : opsLab C n ops ops [] (LabGoal ps ls s.hp.length k) s) : drawWp C n ops k s := by subst h3; subst h4; exact ⟨h1, h2, h⟩

theorem opsLab_to {C n} {ops : List Oper} : ∀ {l : List Oper} {acc : List Lab} {k s} (pre : List Oper), ops = pre ++ l → acc.length = pre.length → opsLab C n ops l acc k s →
    ∃ s' labs, labs.length = ops.length ∧ (∀ i, i < acc.length → labs[i]? = acc[i]?) ∧ LChain C n ops (fun i => labs.getD i emptyLab) (List.range' pre.length l.length) s s' ∧ k labs s'
  | [], acc, k, s, pre, hops, hacc, e => ⟨s, acc, by rw [hops]; simp [hacc], fun _ _ => rfl, rfl, e⟩
  | o :: rest, acc, k, s, pre, hops, hacc, e => by
    have step : ∀ s1, gstep C n ops o s s1 → opsLab C n ops rest (acc ++ [labD C.P ops o s]) k s1 →
        ∃ s' labs, labs.length = ops.length ∧ (∀ i, i < acc.length → labs[i]? = acc[i]?) ∧ LChain C n ops (fun i => labs.getD i emptyLab) (List.range' pre.length (o :: rest).length) s s' ∧ k labs s' := by
      intro s1 hg h2
      obtain ⟨s', labs, q1, q2, q3, q4⟩ := opsLab_to (pre ++ [o]) (by rw [hops]; simp) (by simp [hacc]) h2
      refine ⟨s', labs, q1, fun i hi => by rw [q2 i (by simp; omega), List.getElem?_append_left hi], ?_, q4⟩
      simp only [List.length_cons, List.range'_succ]
      refine ⟨o, s1, by rw [hops]; simp, ?_, hg, by simpa using q3⟩
      have := q2 acc.length (by simp)
      show _ = labs.getD pre.length emptyLab
      rw [List.getD_eq_getElem?_getD, ← hacc, this]
      simp
    simp only [opsLab] at e
    split at e
    · rename_i hg
      obtain ⟨hd, e⟩ := e
      obtain ⟨s1, h1, h2⟩ := opWp_to hd e
      exact step s1 ⟨true, by simp [guardD, hg], hd, by simpa using h1⟩ h2
    · rename_i j want hg
      split at e
      · rename_i t ht
        split at e
        · rename_i b hb
          obtain ⟨hd, e⟩ := e
          have hgd : guardD ops.toArray o s = some (b == want) := by
            simp only [guardD, hg, List.getElem?_toArray, ht, hb]
          rcases hbw : (b == want) with _ | _
          · rw [hbw, IfGoal_false] at e
            exact step _ ⟨false, by rw [hgd, hbw], hd, by simp⟩ e
          · rw [hbw, IfGoal_true] at e
            obtain ⟨s1, h1, h2⟩ := opWp_to hd e
            exact step s1 ⟨true, by rw [hgd, hbw], hd, by simpa using h1⟩ h2
        · rename_i hb
          obtain ⟨hd, e⟩ := e
          have hgd : guardD ops.toArray o s = some false := by
            simp only [guardD, hg, List.getElem?_toArray, ht, hb]
          exact step _ ⟨false, hgd, hd, by simp⟩ e
        · exact e.elim
      · exact e.elim
theorem drawWp_to {C n} {ops : List Oper} {k : St → Prop} {s : St} (e : drawWp C n ops k s) : ∃ s', drawTo C n ops s s' ∧ k s' := by
  obtain ⟨h1, h2, h3⟩ := e
  obtain ⟨s', labs, q1, q2, q3, q4, q5, q6⟩ := opsLab_to [] rfl rfl h3
  refine ⟨s', ⟨h1, h2, labs, q1, ?_, q4, q5⟩, q6⟩
  rw [List.range_eq_range']
  exact q3
end Go.Proofs.Dm
