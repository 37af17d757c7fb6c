/- Part of the proof: contracts of the functions, walked by the D-machine. No condition. -/
import Derived.Test.YtmlhdhpjcipcdaaGreatDoorDh
set_option linter.unusedVariables false
set_option linter.unusedSimpArgs false
namespace Go.Proofs.Dm
open Go Go.RowKit
theorem writeBack_keep : ∀ {hp : List (List DV)} {ids : List Nat} {bs : List (List DV)} {j : Nat}, j < hp.length → j ∉ ids → (writeBack hp ids bs)[j]? = hp[j]? ∧ hp.length ≤ (writeBack hp ids bs).length
  | hp, [], bs, j, h, hn => by
    have : writeBack hp [] bs = hp ++ bs := by cases bs <;> rfl
    rw [this]; exact ⟨List.getElem?_append_left h, by simp⟩
  | hp, i :: is, [], j, h, hn => by simp [writeBack]
  | hp, i :: is, b :: bs, j, h, hn => by
    simp only [writeBack]
    have ih := writeBack_keep (hp := hp.set i b) (ids := is) (bs := bs) (j := j) (by simpa using h) (fun q => hn (by simp [q]))
    rw [ih.1, List.getElem?_set_ne (fun e => hn (by simp [e]))]
    exact ⟨rfl, by simpa using ih.2⟩
theorem writeBack_le : ∀ {hp : List (List DV)} {ids : List Nat} {bs : List (List DV)}, hp.length ≤ (writeBack hp ids bs).length
  | hp, [], bs => by
    have : writeBack hp [] bs = hp ++ bs := by cases bs <;> rfl
    rw [this]; simp
  | hp, i :: is, [] => by simp [writeBack]
  | hp, i :: is, b :: bs => by
    simp only [writeBack]
    have := writeBack_le (hp := hp.set i b) (ids := is) (bs := bs)
    simpa using this
theorem opTo_keeps {C n tk o s s'} (e : opTo C n tk o s s') : Keeps s s' o.dst (goneD tk o s) (wrD C.P tk o s) := by
  unfold opTo at e
  split at e
  · rename_i c hop
    split at e
    · rename_i x hc
      have hgd : goneD tk o s = goneL s (looksD o) := by simp [goneD, eatsT, eats, hop, hc]
      rw [hgd]
      obtain ⟨h0, f, cap, ds, sub, args, r, bs', h1, h2, h3, h4, h5, h6, h7, h8⟩ := e
      subst h8
      have hw : wrD C.P tk o s = reach s.hp (ds ++ cap) := by simp only [wrD, rdD, hop, hc, h1, h2]
      have k := keeps_put (s := { s.kills (given s c.args.toList) with hp := writeBack s.hp (reach s.hp (ds ++ cap)) (bs'.map (mapRefs (backId (reach s.hp (ds ++ cap)) s.hp.length bs'.length))) }) (d := o.dst)
        (v := mapRef (backId (reach s.hp (ds ++ cap)) s.hp.length bs'.length) r) (gone := goneL s (looksD o)) (wr := wrD C.P tk o s)
      refine ⟨fun u hu hg => ?_, fun j hj hwj => ?_, ?_⟩
      · unfold afterCall
        rw [k.tm u hu hg]
        simp only [St.kills]
        rw [if_neg]
        intro q
        have q : u ∈ given s c.args.toList := by simpa using q
        obtain ⟨q1, q2⟩ := given_mem.1 q
        exact hg (goneL_mem.2 ⟨mem_looks.2 (by rw [hop]; simp only [Op.operands, Call.operands, Array.toList_append, List.mem_append]; exact .inr q1), q2⟩)
      · unfold afterCall
        rw [hw] at hwj
        have q := writeBack_keep (bs := bs'.map (mapRefs (backId (reach s.hp (ds ++ cap)) s.hp.length bs'.length))) hj hwj
        have : (({ s.kills (given s c.args.toList) with hp := writeBack s.hp (reach s.hp (ds ++ cap)) (bs'.map (mapRefs (backId (reach s.hp (ds ++ cap)) s.hp.length bs'.length))) } : St).put o.dst (mapRef (backId (reach s.hp (ds ++ cap)) s.hp.length bs'.length) r)).hp = writeBack s.hp (reach s.hp (ds ++ cap)) (bs'.map (mapRefs (backId (reach s.hp (ds ++ cap)) s.hp.length bs'.length))) := by
          cases o.dst <;> rfl
        rw [this]; exact q.1
      · unfold afterCall
        have : (({ s.kills (given s c.args.toList) with hp := writeBack s.hp (reach s.hp (ds ++ cap)) (bs'.map (mapRefs (backId (reach s.hp (ds ++ cap)) s.hp.length bs'.length))) } : St).put o.dst (mapRef (backId (reach s.hp (ds ++ cap)) s.hp.length bs'.length) r)).hp = writeBack s.hp (reach s.hp (ds ++ cap)) (bs'.map (mapRefs (backId (reach s.hp (ds ++ cap)) s.hp.length bs'.length))) := by
          cases o.dst <;> rfl
        rw [this]; exact writeBack_le
    · exact stepD_keeps' e
  · exact stepD_keeps' e
theorem gstep_keeps {C n ops o s s'} (e : gstep C n ops o s s') : Keeps s s' (labD C.P ops o s).dst (labD C.P ops o s).gone (labD C.P ops o s).wr := by
  obtain ⟨g, h1, h2, h3⟩ := e
  cases g with
  | true =>
    have hs : skips ops o s = false := by simp [skips, h1]
    simp only [if_true] at h3
    simp only [labD, hs, Bool.false_eq_true, if_false]
    exact opTo_keeps h3
  | false =>
    have hs : skips ops o s = true := by simp [skips, h1]
    simp only [Bool.false_eq_true, if_false] at h3
    subst h3
    simp only [labD, hs, if_true]
    exact keeps_put
structure Agree (ops : List Oper) (o : Oper) (rd : List Nat) (s t : St) : Prop where
  tm : ∀ u ∈ looksG ops o, t.tm u = s.tm u
  hp : ∀ i ∈ rd, t.hp[i]? = s.hp[i]?
theorem agree_ev {ops o rd s t} (a : Agree ops o rd s t) : ∀ x ∈ o.op.operands.toList, evalD t x = evalD s x := by
  intro x hx
  cases x with
  | tmp u => simp only [evalD]; rw [a.tm u (by simp only [looksG, List.mem_append]; exact .inr (mem_looks.2 hx))]
  | _ => rfl
theorem agree_guard {ops o rd s t} (a : Agree ops o rd s t) : guardD ops.toArray o t = guardD ops.toArray o s := by
  unfold guardD
  split
  · rfl
  · rename_i j want hg
    split
    · rename_i u hu
      rw [a.tm u (by
        simp only [looksG, guardSlot, hg, List.mem_append]
        left
        simp only [List.getElem?_toArray] at hu
        rw [hu]; simp)]
    · rfl
theorem argsD_congr {s t : St} {all : List Operand} : ∀ {xs : List Operand}, (∀ x ∈ xs, evalD t x = evalD s x) → argsD t all xs = argsD s all xs
  | [], h => rfl
  | x :: xs, h => by simp only [argsD, h x (by simp), argsD_congr (xs := xs) (fun y hy => h y (by simp [hy]))]
theorem goneL_congr {s t : St} : ∀ {ts : List Tmp}, (∀ u ∈ ts, t.tm u = s.tm u) → goneL t ts = goneL s ts
  | [], h => rfl
  | x :: xs, h => by simp only [goneL, h x (by simp), goneL_congr (ts := xs) (fun y hy => h y (by simp [hy]))]
theorem anyOwn_congr {s t : St} : ∀ {ts : List Tmp}, (∀ u ∈ ts, t.tm u = s.tm u) → anyOwn t ts = anyOwn s ts
  | [], h => rfl
  | x :: xs, h => by simp only [anyOwn, h x (by simp), anyOwn_congr (ts := xs) (fun y hy => h y (by simp [hy]))]
theorem rdD_congr {ops o s t} (a : Agree ops o (rdD o s) s t) : rdD o t = rdD o s := by
  have ev := agree_ev a
  have hp := a.hp
  unfold rdD at hp ⊢
  split
  · rename_i ty x hop
    rw [ev x (by rw [hop]; simp [Op.operands])]
  · rename_i ty x y hop
    rw [ev x (by rw [hop]; simp [Op.operands])]
  · rename_i c hop
    split
    · rename_i x hc
      have h1 : calleeD t x = calleeD s x := by simp only [calleeD]; rw [ev x (by rw [hop]; simp [Op.operands, Call.operands, hc])]
      have h2 : argsD t c.args.toList c.args.toList = argsD s c.args.toList c.args.toList := argsD_congr fun y hy => ev y (by
        rw [hop]; simp only [Op.operands, Call.operands, Array.toList_append, List.mem_append]; exact .inr hy)
      rw [h1, h2]
      rw [hop] at hp
      simp only [hc] at hp
      split
      · rename_i f cap ds h3 h4
        rw [h3, h4] at hp
        exact reach_congr hp
      · rfl
    · exact argBoxes_congr fun y hy => ev y (by rw [hop]; simp only [Op.operands, Call.operands, Array.toList_append, List.mem_append]; exact .inr hy)
    · exact argBoxes_congr fun y hy => ev y (by rw [hop]; simp only [Op.operands, Call.operands, Array.toList_append, List.mem_append]; exact .inr hy)
    · exact argBoxes_congr fun y hy => ev y (by rw [hop]; simp only [Op.operands, Call.operands, Array.toList_append, List.mem_append]; exact .inr hy)
    · rfl
  · rfl
theorem wrD_congr {P ops tk o s t} (a : Agree ops o (rdD o s) s t) : wrD P tk o t = wrD P tk o s := by
  have ev := agree_ev a
  have hr := rdD_congr a
  have hp := a.hp
  unfold wrD
  split
  · rename_i ty x hop
    rw [ev x (by rw [hop]; simp [Op.operands])]
    split
    · rename_i id off h1
      rw [hp id (by simp [rdD, hop, h1])]
    · rfl
  · exact hr
theorem simpleD_congr {ops o rd s t} {tk : Bool} (a : Agree ops o rd s t) : simpleD tk o t = simpleD tk o s := by
  have : anyOwn t (looksD o) = anyOwn s (looksD o) := anyOwn_congr fun u hu => a.tm u (by simp only [looksG, List.mem_append]; exact .inr hu)
  unfold simpleD
  rw [this]
theorem ldD_congr {P ops o rd s t} (a : Agree ops o rd s t) : ldD P o t = ldD P o s := by
  have ev := agree_ev a
  unfold ldD
  split
  · rename_i ty x hop
    rw [ev x (by rw [hop]; simp [Op.operands])]
  · rfl
theorem mvD_congr {ops tk o rd s t} (a : Agree ops o rd s t) : mvD tk o t = mvD tk o s := by
  unfold mvD
  split
  · rename_i u hop
    rw [a.tm u (by simp only [looksG, List.mem_append]; exact .inr (by simp [looksD, hop, Op.operands]))]
  · rfl
theorem adB_congr {ops o rd s t} (a : Agree ops o rd s t) : adB o t = adB o s := by
  have ev := agree_ev a
  unfold adB
  split
  · rfl
  · rename_i c hop
    split
    · split
      · rename_i x y hxy
        rw [ev x (by rw [hop]; simp [Op.operands, Call.operands, hxy])]
      · rfl
    · rfl
  · rfl
theorem stoB_congr {ops o rd s t} (a : Agree ops o rd s t) : stoB o t = stoB o s := by
  have ev := agree_ev a
  unfold stoB
  split
  · rename_i ty x y hop
    rw [ev y (by rw [hop]; simp [Op.operands])]
  · rfl
theorem lab_congr {P ops o s t} (a : Agree ops o (labD P ops o s).rd s t) : labD P ops o t = labD P ops o s := by
  have hg : skips ops o t = skips ops o s := by simp only [skips, agree_guard a]
  unfold labD at a ⊢
  rw [hg]
  split
  · rfl
  · rename_i hs
    rw [if_neg hs] at a
    dsimp only at a
    have hgd : goneD (takes ops o) o t = goneD (takes ops o) o s := by
      simp only [goneD]
      rw [goneL_congr fun u hu => a.tm u (by simp only [looksG, List.mem_append]; exact .inr hu)]
    rw [rdD_congr a, wrD_congr a, simpleD_congr a, hgd, ldD_congr a, mvD_congr a, adB_congr a, stoB_congr a]
theorem stepD_mu {P n tk o dx v ib s s'} (hl : dx ∉ looksD o) (hd : o.dst ≠ some dx) (hr : ∀ i ∈ rdD o s, offBox ib i) (hb : ∀ j b, ib = some (j, b) → j < s.hp.length)
    (e : stepD P n tk o s = some s') : stepD P n tk o (mu dx v ib s) = some (mu dx v ib s') := by
  have ev := ev_mu (dx := dx) (v := v) (ib := ib) (s := s) hl
  have ne : ∀ x ∈ o.op.operands.toList, x ≠ .tmp dx := fun x hx q => hl (mem_looks.2 (by rw [← q]; exact hx))
  unfold stepD at e ⊢
  split at e
  · rename_i h0
    try rw [if_pos h0]
    split at e
    · rename_i x hop; exact moveD_mu hl hd (by rw [hop]; simp [Op.operands]) e
    · rename_i x hop; exact moveD_mu hl hd (by rw [hop]; simp [Op.operands]) e
    · rename_i t hop; exact allocD_mu hd hb e
    · rename_i t x hop; exact boxD_mu (ne x (by rw [hop]; simp [Op.operands])) hd hb e
    · rename_i t x hop; exact loadD_mu (ne x (by rw [hop]; simp [Op.operands])) hd (fun id off h => hr id (by simp [rdD, hop, h])) e
    · rename_i t x y hop; exact storeD_mu (ne x (by rw [hop]; simp [Op.operands])) (ne y (by rw [hop]; simp [Op.operands])) (fun id off h => hr id (by simp [rdD, hop, h])) e
    · rename_i t parts hop
      have hp : ∀ p ∈ parts.toList, p.2 ≠ .tmp dx := fun p hp => ne p.2 (by rw [hop]; simp only [Op.operands, List.toList_toArray, List.mem_map]; exact ⟨p, hp, rfl⟩)
      refine buildD_mu hp hd (fun pl zc cells ts off h => ?_) e
      rcases stepD_keeps.fillD_owner _ _ _ _ _ _ h with q | ⟨i, q1, q2⟩
      · cases q
      · intro q; exact hp _ q1 (by rw [q])
    · rename_i t len parts hop
      exact buildSliceD_mu (fun p hp => ne p.2 (by rw [hop]; simp only [Op.operands, List.toList_toArray, List.mem_map]; exact ⟨p, hp, rfl⟩)) hd e
    · rename_i t l c hop; exact makeSliceD_mu (ne l (by rw [hop]; simp [Op.operands])) (ne c (by rw [hop]; simp [Op.operands])) hd hb e
    · rename_i c hop
      have nec : ∀ x ∈ c.args.toList, x ≠ .tmp dx := fun x hx => ne x (by rw [hop]; simp only [Op.operands, Call.operands, Array.toList_append, List.mem_append]; exact .inr hx)
      have evc : ∀ x ∈ c.args.toList, evalD (mu dx v ib s) x = evalD s x := fun x hx => ev x (by rw [hop]; simp only [Op.operands, Call.operands, Array.toList_append, List.mem_append]; exact .inr hx)
      split at e
      · rename_i hc
        try simp only [hc]
        rw [needA_congr evc]
        split at e
        · rename_i hna
          rw [if_pos hna]
          exact appendA_mu nec hd (fun i hi => hr i (by simp only [rdD, hop, hc]; exact hi)) hb e
        rename_i hna
        rw [if_neg hna]
        exact appendD_mu (fun x hx => ne x (by rw [hop]; simp only [Op.operands, Call.operands, Array.toList_append, List.mem_append]; exact .inr hx)) hd e
      · rename_i hc
        try simp only [hc]
        exact copyD_mu nec hd (fun i hi => hr i (by simp only [rdD, hop, hc]; exact hi)) e
      · rename_i hc
        try simp only [hc]
        exact clearD_mu nec hd (fun i hi => hr i (by simp only [rdD, hop, hc]; exact hi)) e
      · rename_i hc
        obtain ⟨d, h1, h2⟩ := Option.map_eq_some_iff.1 e
        subst h2
        have : callD P (evalD (mu dx v ib s)) c = callD P (evalD s) c := callD_congr fun x hx => ev x (by rw [hop]; simpa only [Op.operands] using hx)
        rw [this, h1]; simp only [Option.map_some, put_mu hd]
    · obtain ⟨d, h1, h2⟩ := Option.map_eq_some_iff.1 e
      subst h2
      have : pureD P (evalD (mu dx v ib s)) o.op = pureD P (evalD s) o.op := pureD_congr ev
      rw [this, h1]; simp only [Option.map_some, put_mu hd]
  · cases e
theorem gstep_mu {C n ops o dx v ib s s'} (hl : dx ∉ looksG ops o) (hd : o.dst ≠ some dx) (hr : ∀ i ∈ (labD C.P ops o s).rd, offBox ib i) (hb : ∀ j b, ib = some (j, b) → j < s.hp.length)
    (e : gstep C n ops o s s') : gstep C n ops o (mu dx v ib s) (mu dx v ib s') := by
  have hl' : dx ∉ looksD o := fun q => hl (by simp only [looksG, List.mem_append]; exact .inr q)
  obtain ⟨g, h1, h2, h3⟩ := e
  have hg : guardD ops.toArray o (mu dx v ib s) = guardD ops.toArray o s := by
    refine agree_guard (rd := []) (s := s) ⟨fun u hu => tm_mu (fun q => hl (by rw [← q]; exact hu)), by simp⟩
  refine ⟨g, by rw [hg]; exact h1, h2, ?_⟩
  cases g with
  | false =>
    simp only [Bool.false_eq_true, if_false] at h3 ⊢
    subst h3
    exact (put_mu hd).symm
  | true =>
    have hs : skips ops o s = false := by simp [skips, h1]
    simp only [labD, hs, Bool.false_eq_true, if_false] at hr
    simp only [if_true] at h3 ⊢
    unfold opTo at h3 ⊢
    split at h3
    · rename_i c hop
      split at h3
      · rename_i x hc
        have ne : ∀ y ∈ o.op.operands.toList, y ≠ .tmp dx := fun y hy q => hl' (mem_looks.2 (by rw [← q]; exact hy))
        refine callTo_mu (ne x (by rw [hop]; simp [Op.operands, Call.operands, hc])) (fun y hy => ne y (by rw [hop]; simp only [Op.operands, Call.operands, Array.toList_append, List.mem_append]; exact .inr hy)) hd hb ?_ h3
        intro f cap ds k1 k2 i hi
        exact hr i (by simp only [rdD, hop, hc, k1, k2]; exact hi)
      · exact stepD_mu hl' hd hr hb h3
    · exact stepD_mu hl' hd hr hb h3
end Go.Proofs.Dm

set_option linter.unusedVariables false
set_option linter.unusedSimpArgs false
namespace Go.Proofs.Dm
open Go Go.RowKit
theorem fillD_congr {s t : St} {pl : List (Nat × Nat)} : ∀ {parts : List (Nat × Operand)} {cells k}, (∀ p ∈ parts, evalD t p.2 = evalD s p.2) → fillD t pl parts cells k = fillD s pl parts cells k
  | [], cells, k, h => rfl
  | (i, x) :: rest, cells, k, h => by
    simp only [fillD, h (i, x) (by simp)]
    have ih := fun c k => fillD_congr (s := s) (t := t) (pl := pl) (parts := rest) (cells := c) (k := k) (fun p hp => h p (by simp [hp]))
    simp only [ih]
theorem rowsD_congr {P : Program} {s t : St} {e z} : ∀ {parts : List (Nat × Operand)} {k}, (∀ p ∈ parts, evalD t p.2 = evalD s p.2) → rowsD P t e z k parts = rowsD P s e z k parts
  | [], k, h => rfl
  | (i, x) :: rest, k, h => by
    simp only [rowsD, h (i, x) (by simp), rowsD_congr (parts := rest) (fun p hp => h p (by simp [hp]))]
theorem stepD_simple {P : Program} {n : Nat} {tk : Bool} {o : Oper} {s s1 : St} {dx : Nat} (e : stepD P n tk o s = some s1) (hs : simpleD tk o s = true) (hdx : o.dst = some dx) :
    ∃ v ib, s1 = mu dx v ib s ∧ (∀ j b, ib = some (j, b) → j ∈ wrD P tk o s ∧ j < s.hp.length) ∧ (∀ i ∈ rdD o s, i < s.hp.length) ∧
      ∀ t : St, (∀ x ∈ o.op.operands.toList, evalD t x = evalD s x) → (∀ i ∈ rdD o s, t.hp[i]? = s.hp[i]?) → stepD P n tk o t = some (mu dx v ib t) := by
  have done : ∀ v, rdD o s = [] → s1 = s.put o.dst v → (∀ t : St, (∀ x ∈ o.op.operands.toList, evalD t x = evalD s x) → stepD P n tk o t = some (t.put o.dst v)) →
      ∃ v ib, s1 = mu dx v ib s ∧ (∀ j b, ib = some (j, b) → j ∈ wrD P tk o s ∧ j < s.hp.length) ∧ (∀ i ∈ rdD o s, i < s.hp.length) ∧
      ∀ t : St, (∀ x ∈ o.op.operands.toList, evalD t x = evalD s x) → (∀ i ∈ rdD o s, t.hp[i]? = s.hp[i]?) → stepD P n tk o t = some (mu dx v ib t) := by
    intro v hrd h1 h2
    refine ⟨v, none, by rw [h1, hdx]; rfl, fun j b h => (by cases h), by rw [hrd]; simp, fun t ht _ => ?_⟩
    rw [h2 t ht, hdx]; rfl
  have e0 := e
  unfold stepD at e
  split at e
  · rename_i hdst
    have mv : ∀ tk' x, x ∈ o.op.operands.toList → rdD o s = [] → (tk' = false ∨ anyOwn s (looksD o) = false) → (∀ t : St, stepD P n tk o t = moveD P tk' o x t) → moveD P tk' o x s = some s1 →
        ∃ v ib, s1 = mu dx v ib s ∧ (∀ j b, ib = some (j, b) → j ∈ wrD P tk o s ∧ j < s.hp.length) ∧ (∀ i ∈ rdD o s, i < s.hp.length) ∧
        ∀ t : St, (∀ x ∈ o.op.operands.toList, evalD t x = evalD s x) → (∀ i ∈ rdD o s, t.hp[i]? = s.hp[i]?) → stepD P n tk o t = some (mu dx v ib t) := by
      intro tk' x hx hrd hno hst e
      unfold moveD at e
      split at e
      · rename_i u
        have hut : ∀ t : St, (∀ x ∈ o.op.operands.toList, evalD t x = evalD s x) → t.tm u = s.tm u := fun t ht => by have := ht _ hx; simpa only [evalD, Option.some.injEq] using this
        cases hu : hasOwn (s.tm u) with
        | false =>
          rw [hu] at e
          simp only [Bool.false_eq_true, if_false, Option.some.injEq] at e
          refine done _ hrd e.symm fun t ht => ?_
          rw [hst t]
          simp only [moveD, hut t ht, hu, Bool.false_eq_true, if_false]
        | true =>
          have htk : tk' = false := by
            rcases hno with q | q
            · exact q
            · have := anyOwn_false q u (mem_looks.2 hx)
              rw [hu] at this; cases this
          subst htk
          rw [hu] at e
          simp only [Bool.false_eq_true, if_false, if_true, Option.some.injEq] at e
          refine done _ hrd e.symm fun t ht => ?_
          rw [hst t]
          simp only [moveD, hut t ht, hu, Bool.false_eq_true, if_false, if_true]
      · rename_i hnt
        split at e
        · rename_i d hev
          injection e with e
          refine done _ hrd e.symm fun t ht => ?_
          rw [hst t]
          have := ht x hx
          unfold moveD
          split
          · rename_i u; exact absurd rfl (hnt u)
          · rw [this, hev]
        · cases e
    split at e
    · rename_i x hop
      exact mv tk x (by rw [hop]; simp [Op.operands]) (by simp [rdD, hop]) (by cases tk <;> simp_all [simpleD]) (fun t => by simp [stepD, hdst, hop]) e
    · rename_i x hop
      exact mv true x (by rw [hop]; simp [Op.operands]) (by simp [rdD, hop]) (.inr (by simpa [simpleD, hop] using hs)) (fun t => by simp [stepD, hdst, hop]) e
    · rename_i t hop; simp [simpleD, hop] at hs
    · rename_i t x hop; simp [simpleD, hop] at hs
    · rename_i ty x hop
      have hxm : x ∈ o.op.operands.toList := by rw [hop]; simp [Op.operands]
      have hst : ∀ t : St, stepD P n tk o t = loadD P tk o ty x t := fun t => by simp [stepD, hdst, hop]
      unfold loadD at e
      split at e
      · rename_i z g h1 h2
        split at e
        · rename_i id off h3
          have hrd : rdD o s = [id] := by simp [rdD, hop, h3]
          split at e
          · rename_i box h4
            have hlt : id < s.hp.length := (List.getElem?_eq_some_iff.1 h4).1
            split at e
            · rename_i h5
              split at e
              · rename_i h6
                split at e
                · rename_i d u h7 h8
                  injection e with e
                  rw [hdx] at h7; injection h7 with h7; subst h7
                  refine ⟨u, some (id, _), e.symm, fun j b h => ?_, by rw [hrd]; simpa using hlt, fun t ht hh => ?_⟩
                  · injection h with h; injection h with h _; subst h
                    exact ⟨by simp only [wrD, hop, h3, h1, h4]; rw [if_pos h6]; simp, hlt⟩
                  · rw [hst t]
                    have q1 := ht x hxm
                    have q2 := hh id (by rw [hrd]; simp)
                    simp only [loadD, h1, h2, q1, h3, q2, h4, if_pos h5, if_pos h6, hdx, h8]
                    rfl
                · cases e
              · rename_i h6
                obtain ⟨u, h7, h8⟩ := Option.map_eq_some_iff.1 e
                refine ⟨u, none, by rw [← h8, hdx]; rfl, fun j b h => (by cases h), by rw [hrd]; simpa using hlt, fun t ht hh => ?_⟩
                rw [hst t]
                have q1 := ht x hxm
                have q2 := hh id (by rw [hrd]; simp)
                simp only [loadD, h1, h2, q1, h3, q2, h4, if_pos h5, if_neg h6, h7, Option.map_some, hdx]
                rfl
            · cases e
          · cases e
        · rename_i cs h3
          split at e
          · rename_i h5
            obtain ⟨u, h7, h8⟩ := Option.map_eq_some_iff.1 e
            refine done u (by simp [rdD, hop, h3]) h8.symm fun t ht => ?_
            rw [hst t]
            have q1 := ht x hxm
            simp only [loadD, h1, h2, q1, h3, if_pos h5, h7, Option.map_some]
          · cases e
        · cases e
      · cases e
    · rename_i t x y hop; simp [simpleD, hop] at hs
    · rename_i ty parts hop
      have hno : anyOwn s (looksD o) = false := by simpa [simpleD, hop] using hs
      have hpm : ∀ p ∈ parts.toList, p.2 ∈ o.op.operands.toList := fun p hp => by rw [hop]; simp only [Op.operands, List.toList_toArray, List.mem_map]; exact ⟨p, hp, rfl⟩
      unfold buildD at e
      split at e
      · rename_i d pl zc h1 h2 h3
        split at e
        · rename_i cells h4
          injection e with e
          rw [← h1] at e
          refine done _ (by simp [rdD, hop]) e.symm fun t ht => ?_
          have hst : stepD P n tk o t = buildD P o ty parts.toList t := by simp [stepD, hdst, hop]
          rw [hst]
          simp only [buildD, h1, h2, h3, fillD_congr (s := s) (t := t) (fun p hp => ht p.2 (hpm p hp)), h4]
        · rename_i cells ts off h4
          rcases stepD_keeps.fillD_owner _ _ _ _ _ _ h4 with q | ⟨i, q1, q2⟩
          · cases q
          · rw [anyOwn_false hno ts (mem_looks.2 (hpm _ q1))] at q2; cases q2
        · cases e
      · cases e
    · rename_i ty len parts hop
      have hpm : ∀ p ∈ parts.toList, p.2 ∈ o.op.operands.toList := fun p hp => by rw [hop]; simp only [Op.operands, List.toList_toArray, List.mem_map]; exact ⟨p, hp, rfl⟩
      unfold buildSliceD at e
      split at e
      · rename_i el d h1 h2
        split at e
        · rename_i z zv h3 h4
          split at e
          · rename_i rows h5
            split at e
            · rename_i h6
              injection e with e
              rw [← h2] at e
              refine done _ (by simp [rdD, hop]) e.symm fun t ht => ?_
              have hst : stepD P n tk o t = buildSliceD P o ty len parts.toList t := by simp [stepD, hdst, hop]
              rw [hst]
              simp only [buildSliceD, h1, h2, h3, h4, rowsD_congr (s := s) (t := t) (fun p hp => ht p.2 (hpm p hp)), h5, if_pos h6]
            · cases e
          · cases e
        · cases e
      · cases e
    · rename_i t l c hop; simp [simpleD, hop] at hs
    · rename_i c hop
      split at e
      · rename_i hc; simp [simpleD, hop, hc] at hs
      · rename_i hc; simp [simpleD, hop, hc] at hs
      · rename_i hc; simp [simpleD, hop, hc] at hs
      · rename_i hc hc2 hc3
        obtain ⟨d, h2, h3⟩ := Option.map_eq_some_iff.1 e
        have hrd : rdD o s = [] := by
          simp only [rdD, hop]
          cases hx : c.callee with
          | value x => simp [simpleD, hop, hx] at hs
          | builtin b => cases b <;> first | rfl | exact absurd hx hc | exact absurd hx hc2 | exact absurd hx hc3
          | _ => rfl
        refine done d hrd h3.symm fun t ht => ?_
        have hst : stepD P n tk o t = (callD P (evalD t) c).map (t.put o.dst) := by
          simp only [stepD, hdst, if_true, hop]
        rw [hst, callD_congr (ev' := evalD s) (fun x hx => ht x (by rw [hop]; simpa only [Op.operands] using hx)), h2]
        rfl
    · rename_i n1 n2 n3 n4 n5 n6 n7 n8 n9 n10
      obtain ⟨d, h2, h3⟩ := Option.map_eq_some_iff.1 e
      have hrd : rdD o s = [] := by
        simp only [rdD]
      refine done d hrd h3.symm fun t ht => ?_
      have hst : stepD P n tk o t = (pureD P (evalD t) o.op).map (t.put o.dst) := by
        simp only [stepD, hdst, if_true]
      rw [hst, pureD_congr (ev' := evalD s) ht, h2]
      rfl
  · cases e
theorem simple_loc {C n ops o s s1} (e : gstep C n ops o s s1) (hs : (labD C.P ops o s).simple = true) :
    ∃ dx v ib, o.dst = some dx ∧ s1 = mu dx v ib s ∧ (∀ j b, ib = some (j, b) → j ∈ (labD C.P ops o s).wr ∧ j < s.hp.length) ∧ (∀ i ∈ (labD C.P ops o s).rd, i < s.hp.length) ∧
      ∀ t, Agree ops o (labD C.P ops o s).rd s t → gstep C n ops o t (mu dx v ib t) := by
  obtain ⟨g, h1, h2, h3⟩ := e
  cases g with
  | false =>
    have hsk : skips ops o s = true := by simp [skips, h1]
    simp only [labD, hsk, if_true] at hs ⊢
    simp only [Bool.false_eq_true, if_false] at h3
    obtain ⟨dx, hdx⟩ := Option.isSome_iff_exists.1 hs
    refine ⟨dx, .ud, none, hdx, by rw [h3, hdx]; rfl, fun j b h => (by cases h), by simp, fun t ha => ⟨false, by rw [agree_guard ha]; exact h1, h2, ?_⟩⟩
    simp only [Bool.false_eq_true, if_false, hdx]; rfl
  | true =>
    have hsk : skips ops o s = false := by simp [skips, h1]
    simp only [labD, hsk, Bool.false_eq_true, if_false, Bool.and_eq_true] at hs ⊢
    simp only [if_true] at h3
    obtain ⟨hd, hsd⟩ := hs
    obtain ⟨dx, hdx⟩ := Option.isSome_iff_exists.1 hd
    have hstep : stepD C.P n (takes ops o) o s = some s1 := by
      unfold opTo at h3
      split at h3
      · rename_i c hop
        split at h3
        · rename_i x hc; simp [simpleD, hop, hc] at hsd
        · exact h3
      · exact h3
    obtain ⟨v, ib, q1, q2, q3, q4⟩ := stepD_simple hstep hsd hdx
    refine ⟨dx, v, ib, hdx, q1, q2, q3, fun t ha => ⟨true, by rw [agree_guard ha]; exact h1, h2, ?_⟩⟩
    simp only [if_true]
    have := q4 t (agree_ev ha) ha.hp
    unfold opTo
    split
    · rename_i c hop
      split
      · rename_i x hc; simp [simpleD, hop, hc] at hsd
      · exact this
    · exact this
def disj (a b : List Nat) : Bool := a.all fun x => !(b.contains x)
theorem disj_spec {a b : List Nat} (h : disj a b = true) : ∀ x ∈ a, x ∉ b := by
  intro x hx hb
  have := List.all_eq_true.1 h x hx
  simp [hb] at this
def dstL : Option Tmp → List Nat
  | none => []
  | some d => [d]
def compatO (a b : Lab) : Bool :=
  (a.simple || b.simple) && disj (dstL a.dst) (b.looks ++ dstL b.dst) && disj (dstL b.dst) a.looks && disj a.gone b.looks && disj b.gone a.looks && disj a.wr b.rd && disj b.wr a.rd
theorem lab_dst {P ops o s} : (labD P ops o s).dst = o.dst := by unfold labD; split <;> rfl
theorem lab_looks {P ops o s} : (labD P ops o s).looks = looksG ops o := by unfold labD; split <;> rfl
theorem goneD_sub {tk : Bool} {o s} : ∀ u ∈ goneD tk o s, u ∈ looksD o := by
  intro u hu
  unfold goneD at hu
  split at hu
  · exact (goneL_mem.1 hu).1
  · cases hu
theorem lab_gone {P ops o s} : ∀ u ∈ (labD P ops o s).gone, u ∈ looksG ops o := by
  intro u hu
  unfold labD at hu
  split at hu
  · cases hu
  · simp only [looksG, List.mem_append]; exact .inr (goneD_sub u hu)
theorem lab_wr {P ops o s} : ∀ u ∈ (labD P ops o s).wr, u ∈ (labD P ops o s).rd := by
  intro u hu
  unfold labD at hu ⊢
  split at hu
  · cases hu
  · rename_i h
    rw [if_neg h]
    dsimp only at hu ⊢
    unfold wrD at hu
    split at hu
    · rename_i t x hop
      split at hu
      · rename_i id off hx
        have : rdD o s = [id] := by simp [rdD, hop, hx]
        rw [this]
        split at hu
        · split at hu
          · exact hu
          · cases hu
        · cases hu
      · cases hu
    · exact hu
theorem setO_back {hp : List (List DV)} {j : Nat} {b c : List DV} (hj : hp[j]? = some c) : (hp.set j b).set j c = hp := by
  rw [List.set_set]
  obtain ⟨h1, h2⟩ := List.getElem?_eq_some_iff.1 hj
  subst h2
  exact List.set_getElem_self h1
theorem set_same {hp : List (List DV)} {j : Nat} {b : List DV} (hj : hp[j]? = some b) : hp.set j b = hp := by
  obtain ⟨h1, h2⟩ := List.getElem?_eq_some_iff.1 hj
  subst h2
  exact List.set_getElem_self h1
theorem swapO {C n ops x y s s1 s2} (h1 : gstep C n ops x s s1) (h2 : gstep C n ops y s1 s2) (hc : compatO (labD C.P ops x s) (labD C.P ops y s1) = true)
    (hL : (labD C.P ops y s1).simple = true → ∀ i ∈ (labD C.P ops y s1).rd, i < s.hp.length) :
    ∃ s1', gstep C n ops y s s1' ∧ gstep C n ops x s1' s2 ∧ labD C.P ops y s = labD C.P ops y s1 ∧ labD C.P ops x s1' = labD C.P ops x s := by
  simp only [compatO, Bool.and_eq_true, Bool.or_eq_true] at hc
  obtain ⟨⟨⟨⟨⟨⟨hsimp, hd1⟩, hd2⟩, hg1⟩, hg2⟩, hw1⟩, hw2⟩ := hc
  have d1 := disj_spec hd1
  have d2 := disj_spec hd2
  have g1 := disj_spec hg1
  have g2 := disj_spec hg2
  have w1 := disj_spec hw1
  have w2 := disj_spec hw2
  rw [lab_dst, lab_dst, lab_looks] at d1
  rw [lab_dst, lab_looks] at d2
  rw [lab_looks] at g1 g2
  by_cases hx : (labD C.P ops x s).simple = true
  · -- the first one is simple
    obtain ⟨dx, v, ib, hdx, q1, q2, q3, q4⟩ := simple_loc h1 hx
    have hxy : dx ∉ looksG ops y := fun q => d1 dx (by rw [hdx]; simp [dstL]) (by simp [q])
    have hxd : y.dst ≠ some dx := fun q => d1 dx (by rw [hdx]; simp [dstL]) (by rw [q]; simp [dstL])
    have k2 := gstep_keeps h2
    rw [lab_dst] at k2
    subst q1
    -- back
    let ib0 : Option (Nat × List DV) := ib.bind fun p => (s.hp[p.1]?).map fun c => (p.1, c)
    have hib0 : ∀ j c, ib0 = some (j, c) → s.hp[j]? = some c ∧ ∃ b, ib = some (j, b) := by
      intro j c h
      cases ib with
      | none => simp [ib0] at h
      | some p =>
        obtain ⟨j', b⟩ := p
        simp only [ib0, Option.bind_some, Option.map_eq_some_iff] at h
        obtain ⟨c', h3, h4⟩ := h
        injection h4 with h4 h5; subst h4; subst h5
        exact ⟨h3, b, rfl⟩
    have hback : mu dx (s.tm dx) ib0 (mu dx v ib s) = s := by
      have e1 : upd (upd s.tm dx v) dx (s.tm dx) = s.tm := by
        funext i
        by_cases h : i = dx
        · subst h; simp [upd]
        · simp [upd, h]
      have e2 : setO (setO s.hp ib) ib0 = s.hp := by
        cases ib with
        | none => rfl
        | some p =>
          obtain ⟨j, b⟩ := p
          have hj := (q2 j b rfl).2
          have : ib0 = some (j, s.hp[j]) := by simp only [ib0, Option.bind_some, List.getElem?_eq_getElem hj, Option.map_some]
          rw [this]
          simp only [setO]
          exact setO_back (List.getElem?_eq_getElem hj)
      simp only [mu, e1, e2]
    have hoff0 : ∀ i ∈ (labD C.P ops y (mu dx v ib s)).rd, offBox ib0 i := by
      intro i hi j c hjc e
      obtain ⟨_, b, hb⟩ := hib0 j c hjc
      exact w1 j (q2 j b hb).1 (by rw [e]; exact hi)
    have hlen1 : (mu dx v ib s).hp.length = s.hp.length := by rw [hp_mu, setO_len]
    have hm := gstep_mu (v := s.tm dx) (ib := ib0) hxy hxd hoff0 (fun j c hjc => by
      obtain ⟨h3, _⟩ := hib0 j c hjc
      rw [hlen1]; exact (List.getElem?_eq_some_iff.1 h3).1) h2
    rw [hback] at hm
    have hly : labD C.P ops y s = labD C.P ops y (mu dx v ib s) := by
      refine lab_congr ⟨fun u hu => ?_, fun i hi => ?_⟩
      · rw [tm_mu (fun e => hxy (by rw [← e]; exact hu))]
      · rw [hp_mu, setO_get]
        intro j b hb e
        exact w1 j (q2 j b hb).1 (by rw [e]; exact hi)
    have hag : Agree ops x (labD C.P ops x s).rd s (mu dx (s.tm dx) ib0 s2) := by
      refine ⟨fun u hu => ?_, fun i hi => ?_⟩
      · by_cases hud : u = dx
        · subst hud; simp [mu, upd]
        · rw [tm_mu hud, k2.tm u (fun e => d2 u (by rw [e]; simp [dstL]) hu) (fun q => g2 u q hu), tm_mu hud]
      · have hilt := q3 i hi
        rw [hp_mu]
        by_cases hij : ∃ c, ib0 = some (i, c)
        · obtain ⟨c, hc⟩ := hij
          obtain ⟨h3, _⟩ := hib0 i c hc
          rw [hc]
          simp only [setO]
          have : i < s2.hp.length := Nat.lt_of_lt_of_le (by rw [hlen1]; exact hilt) k2.len
          rw [List.getElem?_set_self this, h3]
        · rw [setO_get (fun j c hjc e => hij ⟨c, by rw [← e]; exact hjc⟩), k2.hp i (by rw [hlen1]; exact hilt) (fun q => w2 i q hi), hp_mu, setO_get]
          intro j b hb e
          subst e
          exact hij ⟨s.hp[j], by
            simp only [ib0, hb, Option.bind_some, List.getElem?_eq_getElem hilt, Option.map_some]⟩
    refine ⟨mu dx (s.tm dx) ib0 s2, hm, ?_, hly, lab_congr hag⟩
    have := q4 _ hag
    have hfwd : mu dx v ib (mu dx (s.tm dx) ib0 s2) = s2 := by
      have hv : s2.tm dx = v := by
        rw [k2.tm dx (fun e => hxd e) (fun q => hxy (lab_gone dx q))]
        simp [mu, upd]
      have e1 : upd (upd s2.tm dx (s.tm dx)) dx v = s2.tm := by
        funext i
        by_cases h : i = dx
        · subst h; simp [upd, hv]
        · simp [upd, h]
      have e2 : setO (setO s2.hp ib0) ib = s2.hp := by
        cases ib with
        | none => rfl
        | some p =>
          obtain ⟨j, b⟩ := p
          have hj := (q2 j b rfl).2
          have : ib0 = some (j, s.hp[j]) := by simp only [ib0, Option.bind_some, List.getElem?_eq_getElem hj, Option.map_some]
          rw [this]
          simp only [setO]
          rw [List.set_set]
          apply set_same
          rw [k2.hp j (by rw [hlen1]; exact hj) (fun q => w2 j q (lab_wr j (q2 j b rfl).1)), hp_mu]
          simp only [setO]
          exact List.getElem?_set_self hj
      simp only [mu, e1, e2]
    rw [hfwd] at this
    exact this
  · -- the second one is
    have hy : (labD C.P ops y s1).simple = true := by
      rcases hsimp with h | h
      · exact absurd h hx
      · exact h
    obtain ⟨dx, v, ib, hdx, q1, q2, q3, q4⟩ := simple_loc h2 hy
    have hrd := hL hy
    have k1 := gstep_keeps h1
    rw [lab_dst] at k1
    have hxy : dx ∉ looksG ops x := d2 dx (by rw [hdx]; simp [dstL])
    have hxd : x.dst ≠ some dx := fun q => d1 dx (by rw [q]; simp [dstL]) (by rw [hdx]; simp [dstL])
    have hag : Agree ops y (labD C.P ops y s1).rd s1 s := by
      refine ⟨fun u hu => ?_, fun i hi => ?_⟩
      · exact (k1.tm u (fun e => d1 u (by rw [e]; simp [dstL]) (by simp [hu])) (fun q => g1 u q hu)).symm
      · exact (k1.hp i (hrd i hi) (fun q => w1 i q hi)).symm
    have hm := gstep_mu (v := v) (ib := ib) hxy hxd (fun i hi j b hb e => w2 j (q2 j b hb).1 (by rw [e]; exact hi)) (fun j b hb => hrd j (lab_wr j (q2 j b hb).1)) h1
    refine ⟨mu dx v ib s, q4 s hag, by rw [q1]; exact hm, lab_congr hag, ?_⟩
    refine lab_congr ⟨fun u hu => tm_mu (fun e => hxy (by rw [← e]; exact hu)), fun i hi => ?_⟩
    rw [hp_mu, setO_get]
    intro j b hb e
    exact w2 j (q2 j b hb).1 (by rw [e]; exact hi)
def ldOK : Option (Nat × Nat × Nat) → Option (Nat × Nat × Nat) → Bool
  | some (i, p, z), some (j, q, y) => i == j && (decide (p + z ≤ q) || decide (q + y ≤ p))
  | _, _ => false
def cutB (b : List DV) (off : Nat) (M : List DV) : List DV := b.take off ++ M ++ b.drop (off + M.length)
theorem cutB_len {b : List DV} {off : Nat} {M : List DV} (h : off + M.length ≤ b.length) : (cutB b off M).length = b.length := by
  simp [cutB]; omega
theorem cutB_get {b : List DV} {off : Nat} {M : List DV} (h : off + M.length ≤ b.length) (i : Nat) : (cutB b off M)[i]? = if off ≤ i ∧ i < off + M.length then M[i - off]? else b[i]? := by
  have h1 : (b.take off).length = off := by simp; omega
  unfold cutB
  rw [List.append_assoc, List.getElem?_append, h1]
  by_cases q1 : i < off
  · rw [if_pos q1, if_neg (by omega), List.getElem?_take, if_pos q1]
  · rw [if_neg q1, List.getElem?_append]
    by_cases q2 : i - off < M.length
    · rw [if_pos q2, if_pos (by omega)]
    · rw [if_neg q2, if_neg (by omega), List.getElem?_drop]
      congr 1; omega
theorem cutB_part {b : List DV} {off : Nat} {M : List DV} (h : off + M.length ≤ b.length) {q y : Nat} (hd : off + M.length ≤ q ∨ q + y ≤ off) : ((cutB b off M).drop q).take y = (b.drop q).take y := by
  apply List.ext_getElem?
  intro i
  rw [List.getElem?_take, List.getElem?_take]
  split
  · rename_i hi
    rw [List.getElem?_drop, List.getElem?_drop, cutB_get h, if_neg (by omega)]
  · rfl
theorem cutB_comm {b : List DV} {p q : Nat} {M N : List DV} (h1 : p + M.length ≤ b.length) (h2 : q + N.length ≤ b.length) (hd : p + M.length ≤ q ∨ q + N.length ≤ p) : cutB (cutB b p M) q N = cutB (cutB b q N) p M := by
  apply List.ext_getElem?
  intro i
  rw [cutB_get (by rw [cutB_len h1]; exact h2), cutB_get h1, cutB_get (by rw [cutB_len h2]; exact h1), cutB_get h2]
  by_cases a : p ≤ i ∧ i < p + M.length
  · rw [if_neg (show ¬ (q ≤ i ∧ i < q + N.length) by omega), if_pos a, if_pos a]
  · simp only [if_neg a]
theorem cutB_same {b : List DV} {off z : Nat} (h : off + z ≤ b.length) : cutB b off ((b.drop off).take z) = b := by
  have hl : ((b.drop off).take z).length = z := by simp; omega
  apply List.ext_getElem?
  intro i
  rw [cutB_get (by omega), hl]
  split
  · rename_i q
    rw [List.getElem?_take, if_pos (by omega), List.getElem?_drop]
    congr 1; omega
  · rfl
theorem load_loc {C n ops o s s1 id off z} (e : gstep C n ops o s s1) (hl : (labD C.P ops o s).ld = some (id, off, z)) :
    ∃ v box M, s.hp[id]? = some box ∧ off + z ≤ box.length ∧ M.length = z ∧ s1 = { s.put o.dst v with hp := s.hp.set id (cutB box off M) } ∧
      ∀ (t : St) (bx : List DV), (∀ u ∈ looksG ops o, t.tm u = s.tm u) → t.hp[id]? = some bx → bx.length = box.length → (bx.drop off).take z = (box.drop off).take z →
        gstep C n ops o t { t.put o.dst v with hp := t.hp.set id (cutB bx off M) } ∧ labD C.P ops o t = labD C.P ops o s := by
  have hns : skips ops o s = false := by
    cases h : skips ops o s with
    | false => rfl
    | true => simp [labD, h] at hl
  simp only [labD, hns, Bool.false_eq_true, if_false] at hl
  unfold ldD at hl
  split at hl
  · rename_i ty x hop
    split at hl
    · rename_i id' off' z' hev hz
      injection hl with hl
      injection hl with q1 hl
      injection hl with q2 q3
      subst q1; subst q2; subst q3
      obtain ⟨g, h1, h2, h3⟩ := e
      have hg : g = true := by
        cases g with
        | true => rfl
        | false => simp [skips, h1] at hns
      subst hg
      have hstep : stepD C.P n (takes ops o) o s = some s1 := by
        simp only [if_true] at h3
        unfold opTo at h3
        rw [hop] at h3
        exact h3
      unfold stepD at hstep
      rw [if_pos h2] at hstep
      rw [hop] at hstep
      dsimp only at hstep
      have core : ∀ (t : St) (bx : List DV), (∀ u ∈ looksG ops o, t.tm u = s.tm u) → t.hp[id']? = some bx → ∀ t', loadD C.P (takes ops o) o ty x t = some t' → gstep C n ops o t t' := by
        intro t bx ht hbx t' hld
        have ag : Agree ops o [] s t := ⟨ht, fun i hi => by cases hi⟩
        refine ⟨true, by rw [agree_guard ag]; exact h1, h2, ?_⟩
        simp only [if_true]
        unfold opTo
        rw [hop]
        dsimp only
        unfold stepD
        rw [if_pos h2, hop]
        exact hld
      have evt : ∀ (t : St), (∀ u ∈ looksG ops o, t.tm u = s.tm u) → evalD t x = some (.ref id' off') := by
        intro t ht
        have ag : Agree ops o [] s t := ⟨ht, fun i hi => by cases hi⟩
        rw [agree_ev ag x (by rw [hop]; simp [Op.operands]), hev]
      have labt : ∀ (t : St) (bx box : List DV), (∀ u ∈ looksG ops o, t.tm u = s.tm u) → t.hp[id']? = some bx → s.hp[id']? = some box → (bx.drop off').take z' = (box.drop off').take z' → labD C.P ops o t = labD C.P ops o s := by
        intro t bx box ht hbx hbox hpart
        have ag : Agree ops o [] s t := ⟨ht, fun i hi => by cases hi⟩
        have hsk : skips ops o t = false := by rw [← hns]; simp only [skips, agree_guard ag]
        unfold labD
        rw [hsk, hns]
        simp only [Bool.false_eq_true, if_false]
        have e1 : goneD (takes ops o) o t = goneD (takes ops o) o s := by
          simp only [goneD]
          rw [goneL_congr fun u hu => ht u (by simp only [looksG, List.mem_append]; exact .inr hu)]
        have e2 : rdD o t = rdD o s := by simp only [rdD, hop, evt t ht, hev]
        have e3 : wrD C.P (takes ops o) o t = wrD C.P (takes ops o) o s := by
          simp only [wrD, hop, evt t ht, hev, hz, hbx, hbox, hpart]
        have e4 : simpleD (takes ops o) o t = simpleD (takes ops o) o s := by simp only [simpleD, hop]
        rw [e1, e2, e3, e4, ldD_congr ag, mvD_congr ag, adB_congr ag, stoB_congr ag]
      have hstep0 := hstep
      unfold loadD at hstep
      rw [hz, hev] at hstep
      split at hstep
      · rename_i z2 g2 hz2 hg2
        injection hz2 with hz2; subst hz2
        dsimp only at hstep
        split at hstep
        · rename_i box hbox
          split at hstep
          · rename_i hlen
            split at hstep
            · rename_i htk
              split at hstep
              · rename_i d v hd hv
                injection hstep with hstep
                have hml : (((box.drop off').take z').map deown).length = z' := by simp; omega
                refine ⟨v, box, ((box.drop off').take z').map deown, hbox, hlen.1, hml, ?_, fun t bx ht hbx hln hpart => ⟨?_, labt t bx box ht hbx hbox hpart⟩⟩
                · rw [← hstep, hd]
                  simp only [cutB, hml]
                · refine core t bx ht hbx _ ?_
                  unfold loadD
                  rw [hz, hg2, evt t ht, hd]
                  dsimp only
                  rw [hbx]
                  dsimp only
                  rw [if_pos ⟨by omega, fun q => hlen.2 (List.eq_nil_of_length_eq_zero (by rw [← hln, q]; rfl))⟩, hpart, if_pos htk, hv]
                  simp only [cutB, hml]
              · cases hstep
            · rename_i htk
              obtain ⟨v, hv, hs1⟩ := Option.map_eq_some_iff.1 hstep
              have hml : ((box.drop off').take z').length = z' := by simp; omega
              refine ⟨v, box, (box.drop off').take z', hbox, hlen.1, hml, ?_, fun t bx ht hbx hln hpart => ⟨?_, labt t bx box ht hbx hbox hpart⟩⟩
              · rw [cutB_same hlen.1, set_same hbox, ← hs1]
                cases o.dst <;> rfl
              · rw [← hpart, cutB_same (by omega), set_same hbx]
                have : ({ t.put o.dst v with hp := t.hp } : St) = t.put o.dst v := by cases o.dst <;> rfl
                rw [this]
                refine core t bx ht hbx _ ?_
                unfold loadD
                rw [hz, hg2, evt t ht]
                dsimp only
                rw [hbx]
                dsimp only
                rw [if_pos ⟨by omega, fun q => hlen.2 (List.eq_nil_of_length_eq_zero (by rw [← hln, q]; rfl))⟩, hpart, if_neg htk, hv]
                rfl
          · cases hstep
        · cases hstep
      · cases hstep
    · cases hl
  · cases hl
theorem put_tm_ne {s : St} {d : Option Tmp} {v : DV} {u : Tmp} (h : d ≠ some u) : (s.put d v).tm u = s.tm u := by
  cases d with
  | none => rfl
  | some d =>
    have : u ≠ d := fun e => h (by rw [e])
    simp [St.put, this]
theorem put_hp {s : St} {d : Option Tmp} {v : DV} : (s.put d v).hp = s.hp := by cases d <;> rfl
theorem swapL {C n ops x y s s1 s2} (h1 : gstep C n ops x s s1) (h2 : gstep C n ops y s1 s2) (hd1 : disj (dstL x.dst) (looksG ops y ++ dstL y.dst) = true) (hd2 : disj (dstL y.dst) (looksG ops x) = true)
    (hl : ldOK (labD C.P ops x s).ld (labD C.P ops y s1).ld = true) :
    ∃ s1', gstep C n ops y s s1' ∧ gstep C n ops x s1' s2 ∧ labD C.P ops y s = labD C.P ops y s1 ∧ labD C.P ops x s1' = labD C.P ops x s := by
  have d1 := disj_spec hd1
  have d2 := disj_spec hd2
  unfold ldOK at hl
  split at hl
  · rename_i i p z j q y' hx hy
    simp only [Bool.and_eq_true, beq_iff_eq, Bool.or_eq_true, decide_eq_true_eq] at hl
    obtain ⟨rfl, hl⟩ := hl
    obtain ⟨v, box, M, b1, b2, b3, rfl, b5⟩ := load_loc h1 hx
    have hsame := cutB_len (b := box) (off := p) (M := M) (by omega)
    have hlt : i < s.hp.length := (List.getElem?_eq_some_iff.1 b1).1
    obtain ⟨u, box2, N, c1, c2, c3, rfl, c5⟩ := load_loc h2 hy
    have hb2 : box2 = cutB box p M := by
      have : (s.hp.set i (cutB box p M))[i]? = some (cutB box p M) := by simp [hlt]
      rw [this] at c1
      injection c1 with c1; exact c1.symm
    subst hb2
    have hlen2 : q + N.length ≤ box.length := by omega
    have hlen1 : p + M.length ≤ box.length := by omega
    have hdis : p + M.length ≤ q ∨ q + N.length ≤ p := by omega
    have hxs : ∀ w ∈ looksG ops y, x.dst ≠ some w := fun w hw e => d1 w (by rw [e]; simp [dstL]) (by simp [hw])
    have hys : ∀ w ∈ looksG ops x, y.dst ≠ some w := fun w hw e => d2 w (by rw [e]; simp [dstL]) hw
    have hyd : ∀ a b : Tmp, x.dst = some a → y.dst = some b → a ≠ b := fun a b ea eb e => d1 a (by rw [ea]; simp [dstL]) (by rw [eb]; simp [dstL, e])
    obtain ⟨k1, k2⟩ := c5 s box (fun w hw => (put_tm_ne (hxs w hw)).symm) b1 (by omega) (cutB_part hlen1 (by omega)).symm
    obtain ⟨l1, l2⟩ := b5 { s.put y.dst u with hp := s.hp.set i (cutB box q N) } (cutB box q N) (fun w hw => put_tm_ne (hys w hw)) (by simp [hlt]) (cutB_len hlen2) (cutB_part hlen2 (by omega))
    refine ⟨_, k1, ?_, k2, l2⟩
    have e : ({ ({ s.put y.dst u with hp := s.hp.set i (cutB box q N) } : St).put x.dst v with hp := (s.hp.set i (cutB box q N)).set i (cutB (cutB box q N) p M) } : St) =
        { ({ s.put x.dst v with hp := s.hp.set i (cutB box p M) } : St).put y.dst u with hp := (s.hp.set i (cutB box p M)).set i (cutB (cutB box p M) q N) } := by
      rw [List.set_set, List.set_set, cutB_comm hlen1 hlen2 hdis]
      congr 1
      cases hxd : x.dst with
      | none => cases hyd' : y.dst <;> rfl
      | some a => cases hyd' : y.dst with
        | none => rfl
        | some b =>
          have := hyd a b hxd hyd'
          simp only [St.put, St.mk.injEq, and_true]
          funext k
          by_cases e1 : k = a
          · subst e1; simp [this]
          · by_cases e2 : k = b
            · subst e2; simp [e1]
            · simp [e1, e2]
    rw [e] at l1
    exact l1
  · cases hl
theorem mv_loc {C n ops o s s1} (e : gstep C n ops o s s1) (hm : (labD C.P ops o s).mv = true) :
    ∃ t d, o.dst = some d ∧ t ∈ looksG ops o ∧ t ∈ (labD C.P ops o s).gone ∧ d ≠ t ∧ (labD C.P ops o s).rd = [] ∧ s1 = mu d (s.tm t) none (mu t .un none s) ∧
      ∀ s', Agree ops o [] s s' → gstep C n ops o s' (mu d (s.tm t) none (mu t .un none s')) := by
  obtain ⟨g, h1, h2, h3⟩ := e
  cases g with
  | false =>
    have hsk : skips ops o s = true := by simp [skips, h1]
    simp [labD, hsk] at hm
  | true =>
    have hsk : skips ops o s = false := by simp [skips, h1]
    simp only [labD, hsk, Bool.false_eq_true, if_false] at hm ⊢
    simp only [if_true] at h3
    unfold mvD at hm
    split at hm
    · rename_i t hop
      simp only [Bool.and_eq_true] at hm
      obtain ⟨⟨htk, hown⟩, hd⟩ := hm
      split at hd
      · rename_i d hdst
        have hdt : d ≠ t := by simpa using hd
        have htl : t ∈ looksD o := by simp [looksD, hop, Op.operands]
        have hst : ∀ s', hasOwn (s'.tm t) = true → stepD C.P n (takes ops o) o s' = if dstOk n o.dst then some ((s'.put (some t) .un).put (some d) (s'.tm t)) else none := by
          intro s' ho
          simp only [stepD, hop, moveD, ho, if_true, htk, hdst]
        have hto : ∀ s', opTo C n (takes ops o) o s' = fun s2 => stepD C.P n (takes ops o) o s' = some s2 := by
          intro s'
          funext s2
          simp only [opTo, hop]
        rw [hto] at h3
        rw [hst s hown, if_pos h2] at h3
        injection h3 with h3
        refine ⟨t, d, hdst, by simp only [looksG, List.mem_append]; exact .inr htl, ?_, hdt, by simp only [rdD, hop], h3.symm, fun s' ha => ⟨true, by rw [agree_guard ha]; exact h1, h2, ?_⟩⟩
        · have he : eatsT (takes ops o) o = true := by simp [eatsT, hop, htk]
          simp only [goneD, he, if_true]
          exact goneL_mem.2 ⟨htl, hown⟩
        · have htm : s'.tm t = s.tm t := ha.tm t (by simp only [looksG, List.mem_append]; exact .inr htl)
          simp only [if_true]
          rw [hto]
          rw [hst s' (by rw [htm]; exact hown), if_pos h2, htm]
          rfl
      · cases hd
    · cases hm
theorem mu2_tm {d t : Nat} {a b : DV} {s : St} {u : Nat} (h1 : u ≠ d) (h2 : u ≠ t) : (mu d a none (mu t b none s)).tm u = s.tm u := by
  rw [tm_mu h1, tm_mu h2]
theorem swapM1 {C n ops x y s s1 s2} (h1 : gstep C n ops x s s1) (h2 : gstep C n ops y s1 s2) (hm : (labD C.P ops x s).mv = true)
    (hd1 : disj (dstL x.dst) (looksG ops y ++ dstL y.dst) = true) (hd2 : disj (dstL y.dst) (looksG ops x) = true)
    (hg1 : disj (labD C.P ops x s).gone (looksG ops y) = true) (hg2 : disj (labD C.P ops y s1).gone (looksG ops x) = true) :
    ∃ s1', gstep C n ops y s s1' ∧ gstep C n ops x s1' s2 ∧ labD C.P ops y s = labD C.P ops y s1 ∧ labD C.P ops x s1' = labD C.P ops x s := by
  have d1 := disj_spec hd1
  have d2 := disj_spec hd2
  have g1 := disj_spec hg1
  have g2 := disj_spec hg2
  obtain ⟨t, d, hdx, htl, htg, hdt, hrd, rfl, hx⟩ := mv_loc h1 hm
  have k2 := gstep_keeps h2
  rw [lab_dst] at k2
  have ht_y : t ∉ looksG ops y := g1 t htg
  have hd_y : d ∉ looksG ops y := fun q => d1 d (by rw [hdx]; simp [dstL]) (by simp [q])
  have hyd : y.dst ≠ some d := fun q => d1 d (by rw [hdx]; simp [dstL]) (by rw [q]; simp [dstL])
  have hyt : y.dst ≠ some t := fun q => d2 t (by rw [q]; simp [dstL]) htl
  have hback : mu t (s.tm t) none (mu d (s.tm d) none (mu d (s.tm t) none (mu t .un none s))) = s := by
    simp only [mu, setO]
    congr 1
    funext i
    by_cases e1 : i = t
    · subst e1; simp [upd]
    · by_cases e2 : i = d
      · subst e2; simp [upd, e1]
      · simp [upd, e1, e2]
  have hm1 := gstep_mu (v := s.tm d) (ib := none) hd_y hyd (fun i _ => (fun j c h => by cases h)) (fun j b h => by cases h) h2
  have hm2 := gstep_mu (v := s.tm t) (ib := none) ht_y hyt (fun i _ => (fun j c h => by cases h)) (fun j b h => by cases h) hm1
  rw [hback] at hm2
  have hst : s2.tm t = .un := by
    rw [k2.tm t hyt (fun q => ht_y (lab_gone t q)), tm_mu (fun e => hdt e.symm)]
    simp [mu, upd]
  have hsd : s2.tm d = s.tm t := by
    rw [k2.tm d hyd (fun q => hd_y (lab_gone d q))]
    simp [mu, upd]
  have hag : Agree ops x [] s (mu t (s.tm t) none (mu d (s.tm d) none s2)) := by
    refine ⟨fun u hu => ?_, fun i hi => by cases hi⟩
    by_cases e1 : u = t
    · subst e1; simp [mu, upd]
    · by_cases e2 : u = d
      · subst e2; simp [mu, upd, e1]
      · rw [mu2_tm e1 e2, k2.tm u (fun q => d2 u (by rw [q]; simp [dstL]) hu) (fun q => g2 u q hu), mu2_tm e2 e1]
  refine ⟨_, hm2, ?_, ?_, ?_⟩
  · have := hx _ hag
    have e : mu d (s.tm t) none (mu t .un none (mu t (s.tm t) none (mu d (s.tm d) none s2))) = s2 := by
      simp only [mu, setO]
      cases s2 with
      | mk tm hp =>
        simp only at hst hsd ⊢
        congr 1
        funext i
        by_cases e1 : i = d
        · subst e1; simp [upd, hsd]
        · by_cases e2 : i = t
          · subst e2; simp [upd, e1, hst]
          · simp [upd, e1, e2]
    rw [e] at this
    exact this
  · refine lab_congr ⟨fun u hu => ?_, fun i hi => rfl⟩
    rw [mu2_tm (fun e => hd_y (by rw [← e]; exact hu)) (fun e => ht_y (by rw [← e]; exact hu))]
  · exact lab_congr (by rw [hrd]; exact hag)
theorem swapM2 {C n ops x y s s1 s2} (h1 : gstep C n ops x s s1) (h2 : gstep C n ops y s1 s2) (hm : (labD C.P ops y s1).mv = true)
    (hd1 : disj (dstL x.dst) (looksG ops y ++ dstL y.dst) = true) (hd2 : disj (dstL y.dst) (looksG ops x) = true)
    (hg1 : disj (labD C.P ops x s).gone (looksG ops y) = true) (hg2 : disj (labD C.P ops y s1).gone (looksG ops x) = true) :
    ∃ s1', gstep C n ops y s s1' ∧ gstep C n ops x s1' s2 ∧ labD C.P ops y s = labD C.P ops y s1 ∧ labD C.P ops x s1' = labD C.P ops x s := by
  have d1 := disj_spec hd1
  have d2 := disj_spec hd2
  have g1 := disj_spec hg1
  have g2 := disj_spec hg2
  obtain ⟨t, d, hdy, htl, htg, hdt, hrd, rfl, hy⟩ := mv_loc h2 hm
  have k1 := gstep_keeps h1
  rw [lab_dst] at k1
  have ht_x : t ∉ looksG ops x := g2 t htg
  have hd_x : d ∉ looksG ops x := d2 d (by rw [hdy]; simp [dstL])
  have hxd : x.dst ≠ some d := fun q => d1 d (by rw [q]; simp [dstL]) (by rw [hdy]; simp [dstL])
  have hxt : x.dst ≠ some t := fun q => d1 t (by rw [q]; simp [dstL]) (by simp [htl])
  have hag : Agree ops y [] s1 s := ⟨fun u hu => (k1.tm u (fun q => d1 u (by rw [q]; simp [dstL]) (by simp [hu])) (fun q => g1 u q hu)).symm, fun i hi => by cases hi⟩
  have hm1 := gstep_mu (v := .un) (ib := none) ht_x hxt (fun i _ => (fun j c h => by cases h)) (fun j b h => by cases h) h1
  have hm2 := gstep_mu (v := s1.tm t) (ib := none) hd_x hxd (fun i _ => (fun j c h => by cases h)) (fun j b h => by cases h) hm1
  refine ⟨_, hy _ hag, hm2, ?_, ?_⟩
  · exact lab_congr (by rw [hrd]; exact hag)
  · refine lab_congr ⟨fun u hu => ?_, fun i hi => rfl⟩
    rw [mu2_tm (fun e => hd_x (by rw [← e]; exact hu)) (fun e => ht_x (by rw [← e]; exact hu))]
def compatDyn (a b : Lab) : Bool := ((a.simple || b.simple) && disj a.gone b.looks && disj b.gone a.looks && disj a.wr b.rd && disj b.wr a.rd) || ldOK a.ld b.ld || ((a.mv || b.mv) && disj a.gone b.looks && disj b.gone a.looks)
def compat (a b : Lab) : Bool := disj (dstL a.dst) (b.looks ++ dstL b.dst) && disj (dstL b.dst) a.looks && compatDyn a b
theorem compat_of_old {a b : Lab} (h : compatO a b = true) : compat a b = true := by
  simp only [compatO, compat, compatDyn, Bool.and_eq_true, Bool.or_eq_true] at h ⊢
  obtain ⟨⟨⟨⟨⟨⟨p1, p2⟩, p3⟩, p4⟩, p5⟩, p6⟩, p7⟩ := h
  exact ⟨⟨p2, p3⟩, .inl (.inl ⟨⟨⟨⟨p1, p4⟩, p5⟩, p6⟩, p7⟩)⟩
theorem swap {C n ops x y s s1 s2} (h1 : gstep C n ops x s s1) (h2 : gstep C n ops y s1 s2) (hc : compat (labD C.P ops x s) (labD C.P ops y s1) = true)
    (hL : (labD C.P ops y s1).simple = true → ∀ i ∈ (labD C.P ops y s1).rd, i < s.hp.length) :
    ∃ s1', gstep C n ops y s s1' ∧ gstep C n ops x s1' s2 ∧ labD C.P ops y s = labD C.P ops y s1 ∧ labD C.P ops x s1' = labD C.P ops x s := by
  simp only [compat, compatDyn, Bool.and_eq_true, Bool.or_eq_true] at hc
  obtain ⟨⟨p2, p3⟩, hc⟩ := hc
  rcases hc with (⟨⟨⟨⟨p1, p4⟩, p5⟩, p6⟩, p7⟩ | hc) | ⟨⟨p1, p4⟩, p5⟩
  · refine swapO h1 h2 ?_ hL
    simp only [compatO, Bool.and_eq_true, Bool.or_eq_true]
    exact ⟨⟨⟨⟨⟨⟨p1, p2⟩, p3⟩, p4⟩, p5⟩, p6⟩, p7⟩
  · rw [lab_dst, lab_dst, lab_looks] at p2
    rw [lab_dst, lab_looks] at p3
    exact swapL h1 h2 p2 p3 hc
  · rw [lab_dst, lab_dst, lab_looks] at p2
    rw [lab_dst, lab_looks] at p3
    rw [lab_looks] at p4 p5
    rcases p1 with p1 | p1
    · exact swapM1 h1 h2 p1 p2 p3 p4 p5
    · exact swapM2 h1 h2 p1 p2 p3 p4 p5
end Go.Proofs.Dm

set_option linter.unusedVariables false
set_option linter.unusedSimpArgs false
namespace Go.Proofs.Dm
open Go Go.RowKit
def eff (own? : Option Tmp) (old? : Option Nat) (d : Tmp) (v : Nat → DV) (c : List DV) (s : St) : St :=
  { ((s.put own? .un).put (some d) (v s.hp.length)) with hp := killB s.hp old? ++ [c] }
theorem srcC_congr {z : Nat} {s t : St} {y : Operand} (h1 : evalD t y = evalD s y) (h2 : ∀ id off z' n, evalD s y = some (.arr id off z' n) → t.hp[id]? = s.hp[id]?) : srcC z t y = srcC z s y := by
  unfold srcC
  rw [h1]
  cases hv : evalD s y with
  | none => rfl
  | some dv => cases dv <;> first | rfl | (dsimp only; rw [h2 _ _ _ _ hv])
theorem appendB_eff {e z by_ : Nat} {d : Tmp} {x y : Operand} {s s' : St} (ha : (∃ e' z', evalD s x = some (.mt e' z')) ∨ ∃ id off z' n, evalD s x = some (.arr id off z' n)) (q : appendB e z by_ d x y s = some s') :
    ∃ own? old? v c, s' = eff own? old? d v c s ∧ (∀ t, own? = some t → x = .tmp t ∧ hasOwn (s.tm t) = true) ∧ (∀ i, old? = some i → (∃ off z n, evalD s x = some (.arr i off z n)) ∧ i < s.hp.length) ∧
      ∀ t : St, evalD t x = evalD s x → evalD t y = evalD s y → (∀ id off z n, (evalD s x = some (.arr id off z n) ∨ evalD s y = some (.arr id off z n)) → t.hp[id]? = s.hp[id]?) → appendB e z by_ d x y t = some (eff own? old? d v c t) := by
  have key : ∀ t : St, evalD t y = evalD s y → (∀ id off z n, (evalD s x = some (.arr id off z n) ∨ evalD s y = some (.arr id off z n)) → t.hp[id]? = s.hp[id]?) → srcC z t y = srcC z s y :=
    fun t h1 h2 => srcC_congr h1 fun id off z' n h => h2 id off z' n (.inr h)
  rcases ha with ⟨e', z', hx⟩ | ⟨id, off, z', n, hx⟩
  · unfold appendB at q
    rw [hx] at q
    cases hs : srcC z s y with
    | none => rw [hs] at q; cases q
    | some sm =>
      obtain ⟨src, m⟩ := sm
      rw [hs] at q
      dsimp only at q
      cases x with
      | tmp ts =>
        dsimp only at q
        split at q
        · rename_i hc
          injection q with q; subst q
          refine ⟨some ts, none, fun len => .arr len 0 z m, src, rfl, fun t ht => ?_, fun i hi => by (cases hi), fun t h1 h2 h3 => ?_⟩
          · injection ht with ht; subst ht
            simp only [evalD, Option.some.injEq] at hx
            exact ⟨rfl, by rw [hx]; rfl⟩
          · unfold appendB
            rw [h1, hx, key t h2 h3, hs]
            dsimp only
            rw [if_pos hc]
            rfl
        · cases q
      | _ => cases q
  · unfold appendB at q
    rw [hx] at q
    cases hs : srcC z s y with
    | none => rw [hs] at q; cases q
    | some sm =>
      obtain ⟨src, m⟩ := sm
      rw [hs] at q
      dsimp only at q
      cases hb : s.hp[id]? with
      | none => rw [hb] at q; cases q
      | some box =>
        rw [hb] at q
        dsimp only at q
        split at q
        · rename_i hc
          injection q with q; subst q
          refine ⟨none, some id, fun len => .arr len 0 z (n + m), box ++ src, rfl, fun t ht => by (cases ht), fun i hi => ?_, fun t h1 h2 h3 => ?_⟩
          · injection hi with hi; subst hi
            exact ⟨⟨off, z', n, hx⟩, (List.getElem?_eq_some_iff.1 hb).1⟩
          · unfold appendB
            rw [h1, hx, key t h2 h3, hs]
            dsimp only
            rw [h3 id off z' n (.inl hx), hb]
            dsimp only
            rw [if_pos hc]
            rfl
        · cases q
theorem add_eff {P : Program} {n : Nat} {tk : Bool} {o : Oper} {s s' : St} (e : stepD P n tk o s = some s') (ha : adB o s = true) :
    ∃ own? old? d v c, o.dst = some d ∧ s' = eff own? old? d v c s ∧ (∀ t, own? = some t → t ∈ goneD tk o s) ∧ (∀ i, old? = some i → i ∈ wrD P tk o s ∧ i < s.hp.length) ∧
      ∀ t : St, (∀ x ∈ o.op.operands.toList, evalD t x = evalD s x) → (∀ i ∈ rdD o s, t.hp[i]? = s.hp[i]?) → stepD P n tk o t = some (eff own? old? d v c t) := by
  unfold adB at ha
  unfold stepD at e
  split at e
  · rename_i h0
    split at ha
    · rename_i ty hop
      simp only [hop] at e
      unfold allocD at e
      split at e
      · rename_i d box hd hz
        injection e with e; subst e
        refine ⟨none, none, d, fun len => .ref len 0, box, hd, rfl, fun t ht => by (cases ht), fun i hi => by (cases hi), fun t h1 h2 => ?_⟩
        unfold stepD
        rw [if_pos h0]
        simp only [hop]
        unfold allocD
        rw [hd, hz]
        rfl
      · cases e
    · rename_i c hop
      split at ha
      · rename_i hcal
        split at ha
        · rename_i x y hxy
          simp only [hop, hcal] at e
          have hbase : (∃ e' z', evalD s x = some (.mt e' z')) ∨ ∃ id off z' n, evalD s x = some (.arr id off z' n) := by
            split at ha
            · rename_i e' z' h; exact .inl ⟨_, _, h⟩
            · rename_i a b c d h; exact .inr ⟨_, _, _, _, h⟩
            · cases ha
          have hna : needA P s c = true := by
            unfold needA
            rw [hxy]
            rcases hbase with ⟨_, _, h⟩ | ⟨_, _, _, _, h⟩ <;> simp [h]
          rw [if_pos hna] at e
          have hmx : x ∈ o.op.operands.toList := by rw [hop]; simp [Op.operands, Call.operands, hxy]
          have hmy : y ∈ o.op.operands.toList := by rw [hop]; simp [Op.operands, Call.operands, hxy]
          have hrd : rdD o s = argBoxes s [x, y] := by simp only [rdD, hop, hcal, hxy]
          unfold appendA at e
          rw [hxy] at e
          split at e
          · rename_i x' y' t0 t' d h1 h2 h3
            simp only [List.cons.injEq, and_true] at h1
            obtain ⟨rfl, rfl⟩ := h1
            split at e
            · rename_i el h4
              split at e
              · rename_i z by_ zv h5 h6 h7
                split at e
                · rename_i h8
                  obtain ⟨own?, old?, v, cc, q1, q2, q3, q4⟩ := appendB_eff hbase e
                  refine ⟨own?, old?, d, v, cc, h3, q1, fun t ht => ?_, fun i hi => ?_, fun t k1 k2 => ?_⟩
                  · obtain ⟨r1, r2⟩ := q2 t ht
                    have hea : eatsT tk o = true := by simp [eatsT, eats, hop, hcal]
                    simp only [goneD, hea, if_true]
                    refine goneL_mem.2 ⟨mem_looks.2 ?_, r2⟩
                    rw [← r1]; exact hmx
                  · obtain ⟨⟨off, z2, n2, r1⟩, r2⟩ := q3 i hi
                    refine ⟨?_, r2⟩
                    have : wrD P tk o s = rdD o s := by simp only [wrD, hop]
                    rw [this, hrd]
                    exact argBoxes_mem (by simp) r1
                  · have hev1 := k1 x hmx
                    have hev2 := k1 y hmy
                    have hb : ∀ id off z n, (evalD s x = some (.arr id off z n) ∨ evalD s y = some (.arr id off z n)) → t.hp[id]? = s.hp[id]? := by
                      intro id off z n h
                      refine k2 id ?_
                      rw [hrd]
                      rcases h with h | h
                      · exact argBoxes_mem (by simp) h
                      · exact argBoxes_mem (by simp) h
                    have hna' : needA P t c = true := by
                      rw [needA_congr (P := P) (s := s) (t := t) (c := c) (fun w hw => k1 w (by rw [hop]; simp only [Op.operands, Call.operands, Array.toList_append, List.mem_append]; exact .inr hw))]; exact hna
                    unfold stepD
                    rw [if_pos h0]
                    simp only [hop, hcal]
                    rw [if_pos hna']
                    unfold appendA
                    rw [hxy, h2, h3]
                    dsimp only
                    rw [h4]
                    dsimp only
                    rw [h5, h6, h7]
                    dsimp only
                    rw [if_pos h8]
                    exact q4 t hev1 hev2 hb
                · cases e
              · cases e
            · cases e
          · cases e
        · cases ha
      · cases ha
    · cases ha
  · cases e
theorem writeBack_len0 : ∀ {hp : List (List DV)} {ids : List Nat} {bs : List (List DV)}, (writeBack hp ids bs).length = hp.length + (bs.length - ids.length)
  | hp, [], bs => by cases bs <;> simp [writeBack]
  | hp, i :: is, [] => by simp [writeBack]
  | hp, i :: is, b :: bs => by simp only [writeBack]; rw [writeBack_len0]; simp
theorem writeBack_app {c : List DV} : ∀ {hp : List (List DV)} {ids : List Nat} {bs : List (List DV)}, (∀ i ∈ ids, i < hp.length) → bs.length ≤ ids.length → writeBack (hp ++ [c]) ids bs = writeBack hp ids bs ++ [c]
  | hp, [], bs, h, hl => by
    have : bs = [] := List.eq_nil_of_length_eq_zero (by simpa using hl)
    subst this; simp [writeBack]
  | hp, i :: is, [], h, hl => by simp [writeBack]
  | hp, i :: is, b :: bs, h, hl => by
    simp only [writeBack]
    rw [List.set_append_left _ _ (h i (by simp)), writeBack_app (fun j hj => by simpa using h j (by simp [hj])) (by simpa using hl)]
theorem writeBack_kill {o : Option Nat} : ∀ {hp : List (List DV)} {ids : List Nat} {bs : List (List DV)}, (∀ i, o = some i → i ∉ ids) → bs.length ≤ ids.length → writeBack (killB hp o) ids bs = killB (writeBack hp ids bs) o
  | hp, [], bs, h, hl => by
    have : bs = [] := List.eq_nil_of_length_eq_zero (by simpa using hl)
    subst this; simp [writeBack]
  | hp, i :: is, [], h, hl => by simp [writeBack]
  | hp, i :: is, b :: bs, h, hl => by
    simp only [writeBack]
    have : (killB hp o).set i b = killB (hp.set i b) o := by
      cases o with
      | none => rfl
      | some j =>
        have hne : j ≠ i := fun q => h j rfl (by simp [q])
        simp only [killB]
        exact List.set_comm _ _ hne
    rw [this, writeBack_kill (fun j hj => fun q => h j hj (by simp [q])) (by simpa using hl)]
theorem killB_len {hp : List (List DV)} {o : Option Nat} : (killB hp o).length = hp.length := by cases o <;> simp [killB]
theorem killB_get {hp : List (List DV)} {o : Option Nat} {i : Nat} (h : ∀ j, o = some j → j ≠ i) : (killB hp o)[i]? = hp[i]? := by
  cases o with
  | none => rfl
  | some j => simp only [killB]; exact List.getElem?_set_ne (h j rfl)
theorem given_congr {s t : St} : ∀ {xs : List Operand}, (∀ u, .tmp u ∈ xs → t.tm u = s.tm u) → given t xs = given s xs
  | [], h => rfl
  | x :: xs, h => by
    have ih := given_congr (s := s) (t := t) (xs := xs) (fun u hu => h u (by simp [hu]))
    cases x with
    | tmp u => simp only [given, h u (by simp), ih]
    | _ => simp only [given, ih]
theorem eff_tm {own? old? d v c} {s : St} {u : Nat} (h1 : u ≠ d) (h2 : ∀ t, own? = some t → t ≠ u) : (eff own? old? d v c s).tm u = s.tm u := by
  have : ((s.put own? .un).put (some d) (v s.hp.length)).tm u = s.tm u := by
    rw [put_tm_ne (by intro q; injection q with q; exact h1 q.symm), put_tm_ne (by intro q; exact h2 u q rfl)]
  exact this
theorem eff_hp {own? old? d v c} {s : St} : (eff own? old? d v c s).hp = killB s.hp old? ++ [c] := rfl
theorem eff_get {own? old? d v c} {s : St} {i : Nat} (h1 : i < s.hp.length) (h2 : ∀ j, old? = some j → j ≠ i) : (eff own? old? d v c s).hp[i]? = s.hp[i]? := by
  rw [eff_hp, List.getElem?_append_left (by rw [killB_len]; exact h1), killB_get h2]
theorem eff_at {own? old? d v c} {s : St} {u : Nat} : (eff own? old? d v c s).tm u = if u = d then v s.hp.length else if own? = some u then .un else s.tm u := by
  cases own? with
  | none => simp [eff, St.put]
  | some t =>
    simp only [eff, St.put]
    by_cases h : u = d
    · simp [h]
    · by_cases h2 : u = t
      · subst h2; simp [h]
      · have : ¬ (t = u) := fun q => h2 q.symm
        simp [h, h2, this]
theorem kills_put_at {s : St} {G : List Tmp} {hp : List (List DV)} {dst : Option Tmp} {v : DV} {u : Nat} : (({ s.kills G with hp := hp } : St).put dst v).tm u = if dst = some u then v else if u ∈ G then .un else s.tm u := by
  cases dst with
  | none => simp [St.put, St.kills]
  | some d =>
    simp only [St.put, St.kills]
    by_cases h : u = d
    · subst h; simp
    · have : ¬ (d = u) := fun q => h q.symm
      simp [h, this]
theorem reach_lt {hp : List (List DV)} {ids : List Nat} {sub : List (List DV)} (h : subHp hp ids = some sub) : ∀ i ∈ ids, i < hp.length := by
  intro i hi
  obtain ⟨_, hs⟩ := subHp_spec h
  obtain ⟨j, hj⟩ := List.mem_iff_getElem?.1 hi
  obtain ⟨b, q1, _⟩ := hs j i hj
  exact (List.getElem?_eq_some_iff.1 q1).1
theorem callTo_eff {C n o} {c : Call} {x : Operand} {s s1 : St} {own? old? d v cc} (hop : o.op = .call c) (hcal : c.callee = .value x) (e : callTo C n o c x s s1) (hlen : s1.hp.length = s.hp.length)
    (hdx : o.dst ≠ some d) (hox : ∀ t, own? = some t → o.dst ≠ some t ∧ t ∉ looksD o) (hdl : d ∉ looksD o) (hold : ∀ i, old? = some i → i ∉ rdD o s) :
    callTo C n o c x (eff own? old? d v cc s) (eff own? old? d v cc s1) := by
  obtain ⟨hd, f, cap, ds, sub, args, r, bs', h1, h2, h3, h4, h5, h6, h7, h8⟩ := e
  have hsl : ∀ u ∈ looksD o, (eff own? old? d v cc s).tm u = s.tm u := fun u hu => eff_tm (fun q => hdl (by rw [← q]; exact hu)) (fun t ht q => (hox t ht).2 (by rw [q]; exact hu))
  have hev : ∀ y ∈ o.op.operands.toList, evalD (eff own? old? d v cc s) y = evalD s y := by
    intro y hy
    cases y with
    | tmp u => simp only [evalD]; rw [hsl u (mem_looks.2 hy)]
    | _ => rfl
  have hmx : x ∈ o.op.operands.toList := by rw [hop]; simp [Op.operands, Call.operands, hcal]
  have hma : ∀ y ∈ c.args.toList, y ∈ o.op.operands.toList := fun y hy => by rw [hop]; simp only [Op.operands, Call.operands, Array.toList_append, List.mem_append]; exact .inr hy
  have hrd : rdD o s = reach s.hp (ds ++ cap) := by simp only [rdD, hop, hcal, h1, h2]
  have hlt := reach_lt h3
  rw [hrd] at hold
  have hget : ∀ i ∈ reach s.hp (ds ++ cap), (eff own? old? d v cc s).hp[i]? = s.hp[i]? := fun i hi => eff_get (hlt i hi) (fun j hj q => hold j hj (by rw [q]; exact hi))
  have hreach : reach (eff own? old? d v cc s).hp (ds ++ cap) = reach s.hp (ds ++ cap) := reach_congr hget
  have hbl : bs'.length ≤ (reach s.hp (ds ++ cap)).length := by
    have hl1 : s1.hp.length = s.hp.length + (bs'.length - (reach s.hp (ds ++ cap)).length) := by
      rw [h8]; unfold afterCall; rw [put_hp]; dsimp only; rw [writeBack_len0]; simp
    omega
  have hbk : ∀ k, backId (reach s.hp (ds ++ cap)) k bs'.length = backId (reach s.hp (ds ++ cap)) 0 bs'.length := by
    intro k
    funext j
    unfold backId
    split
    · rfl
    · rename_i hj
      have := List.getElem?_eq_none_iff.1 hj
      rw [if_neg (by omega), if_neg (by omega)]
  have hgiven : given (eff own? old? d v cc s) c.args.toList = given s c.args.toList := given_congr fun u hu => hsl u (mem_looks.2 (hma _ hu))
  refine ⟨hd, f, cap, ds, sub, args, r, bs', ?_, ?_, ?_, ?_, ?_, ?_, ?_, ?_⟩
  · simp only [calleeD] at h1 ⊢; rw [hev x hmx]; exact h1
  · rw [argsD_congr fun y hy => hev y (hma y hy)]; exact h2
  · rw [hreach, subHp_congr hget]; exact h3
  · rw [hreach, boxRefs_congr hget]; exact h4
  · rw [hreach]; exact h5
  · rw [hreach]; exact h6
  · rw [hreach]; exact h7
  · rw [hreach, hgiven, h8]
    unfold afterCall
    rw [hbk s.hp.length, hbk (eff own? old? d v cc s).hp.length]
    have hl2 : (({ s.kills (given s c.args.toList) with hp := writeBack s.hp (reach s.hp (ds ++ cap)) (bs'.map (mapRefs (backId (reach s.hp (ds ++ cap)) 0 bs'.length))) } : St).put o.dst (mapRef (backId (reach s.hp (ds ++ cap)) 0 bs'.length) r)).hp = writeBack s.hp (reach s.hp (ds ++ cap)) (bs'.map (mapRefs (backId (reach s.hp (ds ++ cap)) 0 bs'.length))) := by rw [put_hp]
    have hl3 : (writeBack s.hp (reach s.hp (ds ++ cap)) (bs'.map (mapRefs (backId (reach s.hp (ds ++ cap)) 0 bs'.length)))).length = s.hp.length := by rw [writeBack_len0]; simp; omega
    have hwb : writeBack (killB s.hp old? ++ [cc]) (reach s.hp (ds ++ cap)) (bs'.map (mapRefs (backId (reach s.hp (ds ++ cap)) 0 bs'.length))) =
        killB (writeBack s.hp (reach s.hp (ds ++ cap)) (bs'.map (mapRefs (backId (reach s.hp (ds ++ cap)) 0 bs'.length)))) old? ++ [cc] := by
      rw [writeBack_app (fun i hi => by rw [killB_len]; exact hlt i hi) (by simpa using hbl), writeBack_kill hold (by simpa using hbl)]
    have hgone : ∀ u ∈ given s c.args.toList, u ∈ looksD o := fun u hu => by
      obtain ⟨q1, _⟩ := given_mem.1 hu
      exact mem_looks.2 (hma _ q1)
    have hdg : d ∉ given s c.args.toList := fun q => hdl (hgone d q)
    have hog : ∀ t, own? = some t → t ∉ given s c.args.toList := fun t ht q => (hox t ht).2 (hgone t q)
    have ext : ∀ (a b : St), a.tm = b.tm → a.hp = b.hp → a = b := fun a b h1 h2 => by cases a; cases b; simp only at h1 h2; rw [h1, h2]
    refine ext _ _ ?_ ?_
    rotate_left
    · rw [eff_hp, put_hp, put_hp]
      dsimp only
      rw [eff_hp, hwb]
    · funext u
      rw [eff_at, put_hp, hl3, kills_put_at, kills_put_at, eff_at]
      by_cases hu : u = d
      · have e1 : o.dst ≠ some u := by rw [hu]; exact hdx
        have e2 : u ∉ given s c.args.toList := by rw [hu]; exact hdg
        simp [hu, e1, e2, hdx, hdg]
      · by_cases hut : own? = some u
        · have e1 : o.dst ≠ some u := (hox u hut).1
          have e2 : u ∉ given s c.args.toList := hog u hut
          simp [hu, hut, e1, e2]
        · simp [hu, hut]
theorem swapC {C n ops x y s s1 s2} (h1 : gstep C n ops x s s1) (h2 : gstep C n ops y s1 s2) (hxc : (labD C.P ops x s).call = true) (hya : (labD C.P ops y s1).add = true)
    (hd1 : disj (dstL x.dst) (looksG ops y ++ dstL y.dst) = true) (hd2 : disj (dstL y.dst) (looksG ops x) = true) (hg1 : disj (labD C.P ops x s).gone (looksG ops y) = true) (hg2 : disj (labD C.P ops y s1).gone (looksG ops x ++ dstL x.dst) = true)
    (hw1 : disj (labD C.P ops x s).wr (labD C.P ops y s1).rd = true) (hw2 : disj (labD C.P ops y s1).wr (labD C.P ops x s).rd = true) (hlen : s1.hp.length = s.hp.length) :
    ∃ s1', gstep C n ops y s s1' ∧ gstep C n ops x s1' s2 ∧ labD C.P ops y s = labD C.P ops y s1 ∧ labD C.P ops x s1' = labD C.P ops x s := by
  have d1 := disj_spec hd1
  have d2 := disj_spec hd2
  have g1 := disj_spec hg1
  have g2 := disj_spec hg2
  have w1 := disj_spec hw1
  have w2 := disj_spec hw2
  have kx := gstep_keeps h1
  rw [lab_dst] at kx
  -- the call is carried out
  have hxs : skips ops x s = false := by
    cases hq : skips ops x s with
    | false => rfl
    | true => simp [labD, hq] at hxc
  have hys : skips ops y s1 = false := by
    cases hq : skips ops y s1 with
    | false => rfl
    | true => simp [labD, hq] at hya
  have elx : labD C.P ops x s = ⟨x.dst, looksG ops x, goneD (takes ops x) x s, rdD x s, wrD C.P (takes ops x) x s, x.dst.isSome && simpleD (takes ops x) x s, ldD C.P x s, mvD (takes ops x) x s, callB x, adB x s, stoB x s⟩ := by unfold labD; rw [if_neg (by rw [hxs]; simp)]
  have ely : labD C.P ops y s1 = ⟨y.dst, looksG ops y, goneD (takes ops y) y s1, rdD y s1, wrD C.P (takes ops y) y s1, y.dst.isSome && simpleD (takes ops y) y s1, ldD C.P y s1, mvD (takes ops y) y s1, callB y, adB y s1, stoB y s1⟩ := by unfold labD; rw [if_neg (by rw [hys]; simp)]
  rw [elx] at hxc
  rw [ely] at hya
  dsimp only at hxc hya
  obtain ⟨g, k1, k2, k3⟩ := h1
  have hgt : g = true := by
    cases g with
    | true => rfl
    | false => simp [skips, k1] at hxs
  subst hgt
  obtain ⟨g', m1, m2, m3⟩ := h2
  have hgt : g' = true := by
    cases g' with
    | true => rfl
    | false => simp [skips, m1] at hys
  subst hgt
  simp only [if_true] at k3 m3
  -- its shape
  have hcx : ∃ c xx, x.op = .call c ∧ c.callee = .value xx := by
    unfold callB at hxc
    split at hxc
    · rename_i c hop
      split at hxc
      · rename_i xx hcal; exact ⟨c, xx, hop, hcal⟩
      · cases hxc
    · cases hxc
  obtain ⟨c, xx, hop, hcal⟩ := hcx
  have k3' : callTo C n x c xx s s1 := by
    unfold opTo at k3
    simpa only [hop, hcal] using k3
  have m3' : stepD C.P n (takes ops y) y s1 = some s2 := by
    unfold opTo at m3
    split at m3
    · rename_i c' hop'
      split at m3
      · rename_i x' hc'
        simp [adB, hop', hc'] at hya
      · exact m3
    · exact m3
  obtain ⟨own?, old?, d, v, cc, q1, q2, q3, q4, q5⟩ := add_eff m3' hya
  have hrdlt : ∀ i ∈ (labD C.P ops y s1).rd, s.hp[i]? = s1.hp[i]? := by
    intro i hi
    rcases Nat.lt_or_ge i s.hp.length with h | h
    · exact (kx.hp i h (fun q => w1 i q hi)).symm
    · rw [List.getElem?_eq_none h, List.getElem?_eq_none (by omega)]
  have hag : Agree ops y (labD C.P ops y s1).rd s1 s :=
    ⟨fun u hu => (kx.tm u (fun e => d1 u (by rw [e]; simp [dstL]) (by simp [hu])) (fun q => g1 u q hu)).symm, hrdlt⟩
  have hly := lab_congr hag
  have hgy : guardD ops.toArray y s = some true := by rw [agree_guard hag]; exact m1
  have hevy := agree_ev hag
  have hst : stepD C.P n (takes ops y) y s = some (eff own? old? d v cc s) := q5 s hevy (fun i hi => hag.hp i (by rw [ely]; exact hi))
  have hdd : d ∉ looksG ops x := d2 d (by rw [q1]; simp [dstL])
  have hdd' : d ∉ looksD x := fun q => hdd (by simp only [looksG, List.mem_append]; exact .inr q)
  have hxd : x.dst ≠ some d := fun q => d1 d (by rw [q]; simp [dstL]) (by rw [q1]; simp [dstL])
  have hoo : ∀ t, own? = some t → t ∉ looksG ops x ∧ x.dst ≠ some t := by
    intro t ht
    have hm : t ∈ (labD C.P ops y s1).gone := by rw [ely]; exact q3 t ht
    have := g2 t hm
    refine ⟨fun q => this (by simp [q]), fun q => this (by rw [q]; simp [dstL])⟩
  have hold : ∀ i, old? = some i → i ∉ rdD x s := by
    intro i hi q
    exact w2 i (by rw [ely]; exact (q4 i hi).1) (by rw [elx]; exact q)
  have hagx : Agree ops x (labD C.P ops x s).rd s (eff own? old? d v cc s) := by
    refine ⟨fun u hu => eff_tm (fun e => hdd (by rw [← e]; exact hu)) (fun t ht e => (hoo t ht).1 (by rw [e]; exact hu)), fun i hi => ?_⟩
    rw [elx] at hi
    have hi : i ∈ rdD x s := hi
    obtain ⟨_, f, cap, ds, sub, args, r, bs', e1, e2, e3, _⟩ := k3'
    have hrd : rdD x s = reach s.hp (ds ++ cap) := by simp only [rdD, hop, hcal, e1, e2]
    have hlt := reach_lt e3 i (by rw [← hrd]; exact hi)
    exact eff_get hlt (fun j hj q => hold j hj (by rw [q]; exact hi))
  refine ⟨eff own? old? d v cc s, ⟨true, hgy, m2, ?_⟩, ⟨true, by rw [agree_guard hagx]; exact k1, k2, ?_⟩, hly.symm ▸ rfl, lab_congr hagx⟩
  · simp only [if_true]
    unfold opTo
    split
    · rename_i c' hop'
      split
      · rename_i x' hc'
        simp [adB, hop', hc'] at hya
      · exact hst
    · exact hst
  · simp only [if_true]
    rw [q2]
    unfold opTo
    simp only [hop, hcal]
    exact callTo_eff hop hcal k3' hlen hxd (fun t ht => ⟨(hoo t ht).2, fun q => (hoo t ht).1 (by simp only [looksG, List.mem_append]; exact .inr q)⟩) hdd' hold
theorem store_loc {C n ops o s s1} (e : gstep C n ops o s s1) (hs : (labD C.P ops o s).sto = true) :
    ∃ j b, s1 = ⟨s.tm, s.hp.set j b⟩ ∧ j ∈ (labD C.P ops o s).wr ∧ j < s.hp.length ∧ ∀ t, Agree ops o (labD C.P ops o s).rd s t → gstep C n ops o t ⟨t.tm, t.hp.set j b⟩ := by
  have hsk : skips ops o s = false := by
    cases hq : skips ops o s with
    | false => rfl
    | true => simp [labD, hq] at hs
  have el : labD C.P ops o s = ⟨o.dst, looksG ops o, goneD (takes ops o) o s, rdD o s, wrD C.P (takes ops o) o s, o.dst.isSome && simpleD (takes ops o) o s, ldD C.P o s, mvD (takes ops o) o s, callB o, adB o s, stoB o s⟩ := by unfold labD; rw [if_neg (by rw [hsk]; simp)]
  rw [el] at hs ⊢
  dsimp only at hs ⊢
  obtain ⟨g, h1, h2, h3⟩ := e
  have hgt : g = true := by
    cases g with
    | true => rfl
    | false => simp [skips, h1] at hsk
  subst hgt
  simp only [if_true] at h3
  unfold stoB at hs
  split at hs
  · rename_i ty x y hop
    split at hs
    · rename_i v hv
      have hown : hasOwn v = false := by simpa using hs
      have h3' : stepD C.P n (takes ops o) o s = some s1 := by unfold opTo at h3; simpa only [hop] using h3
      unfold stepD at h3'
      rw [if_pos h2] at h3'
      simp only [hop] at h3'
      unfold storeD at h3'
      split at h3'
      · rename_i z q1 q2
        split at h3'
        · rename_i id off v' q3 q4
          rw [hv] at q4; injection q4 with q4; subst q4
          split at h3'
          · rename_i cs box q5 q6
            split at h3'
            · rename_i q7
              rw [if_neg (by rw [hown]; simp)] at h3'
              injection h3' with h3'
              have hrd : rdD o s = [id] := by simp [rdD, hop, q3]
              have hwr : wrD C.P (takes ops o) o s = [id] := by simp only [wrD, hop]; exact hrd
              refine ⟨id, _, h3'.symm, by rw [hwr]; simp, (List.getElem?_eq_some_iff.1 q6).1, fun t ha => ⟨true, by rw [agree_guard ha]; exact h1, h2, ?_⟩⟩
              simp only [if_true]
              have ev := agree_ev ha
              have hb : t.hp[id]? = some box := by rw [ha.hp id (by rw [hrd]; simp)]; exact q6
              unfold opTo
              simp only [hop]
              unfold stepD
              rw [if_pos h2]
              simp only [hop]
              unfold storeD
              rw [q1, q2, ev x (by rw [hop]; simp [Op.operands]), ev y (by rw [hop]; simp [Op.operands]), q3, hv]
              dsimp only
              rw [q5, hb]
              dsimp only
              rw [if_pos q7, if_neg (by rw [hown]; simp)]
            · cases h3'
          · cases h3'
        · cases h3'
      · cases h3'
    · cases hs
  · cases hs
theorem fresh_slot (l : List Nat) : ∃ d, d ∉ l := ⟨l.sum + 1, fun h => by
  have : ∀ (l : List Nat) (x : Nat), x ∈ l → x ≤ l.sum := by
    intro l
    induction l with
    | nil => intro x hx; cases hx
    | cons y l ih =>
      intro x hx
      simp only [List.sum_cons]
      rcases List.mem_cons.1 hx with e | e
      · omega
      · have := ih x e; omega
  have := this l _ h
  omega⟩
theorem swapSt {C n ops x y s s1 s2} (h1 : gstep C n ops x s s1) (h2 : gstep C n ops y s1 s2) (hy : (labD C.P ops y s1).sto = true)
    (hd1 : disj (dstL x.dst) (looksG ops y ++ dstL y.dst) = true) (hg1 : disj (labD C.P ops x s).gone (looksG ops y) = true)
    (hw1 : disj (labD C.P ops x s).wr (labD C.P ops y s1).rd = true) (hw2 : disj (labD C.P ops y s1).wr (labD C.P ops x s).rd = true) (hrd : ∀ i ∈ (labD C.P ops y s1).rd, i < s.hp.length) :
    ∃ s1', gstep C n ops y s s1' ∧ gstep C n ops x s1' s2 ∧ labD C.P ops y s = labD C.P ops y s1 ∧ labD C.P ops x s1' = labD C.P ops x s := by
  have d1 := disj_spec hd1
  have g1 := disj_spec hg1
  have w1 := disj_spec hw1
  have w2 := disj_spec hw2
  obtain ⟨j, b, q1, q2, q3, q4⟩ := store_loc h2 hy
  have k1 := gstep_keeps h1
  rw [lab_dst] at k1
  have hag : Agree ops y (labD C.P ops y s1).rd s1 s := by
    refine ⟨fun u hu => ?_, fun i hi => ?_⟩
    · exact (k1.tm u (fun e => d1 u (by rw [e]; simp [dstL]) (by simp [hu])) (fun q => g1 u q hu)).symm
    · exact (k1.hp i (hrd i hi) (fun q => w1 i q hi)).symm
  obtain ⟨dx, hdx⟩ := fresh_slot (looksG ops x ++ dstL x.dst)
  have hx1 : dx ∉ looksG ops x := fun q => hdx (by simp [q])
  have hx2 : x.dst ≠ some dx := fun q => hdx (by rw [q]; simp [dstL])
  have hj : j < s.hp.length := hrd j (lab_wr j q2)
  have hm := gstep_mu (v := s.tm dx) (ib := some (j, b)) hx1 hx2 (fun i hi j' b' hb e => by
    injection hb with hb; injection hb with hb1 hb2; subst hb1
    exact w2 j q2 (by rw [e]; exact hi)) (fun j' b' hb => by injection hb with hb; injection hb with hb1 hb2; subst hb1; exact hj) h1
  have e1 : mu dx (s.tm dx) (some (j, b)) s = ⟨s.tm, s.hp.set j b⟩ := by
    simp only [mu, setO, St.mk.injEq, and_true]
    funext u
    by_cases h : u = dx
    · subst h; simp [upd]
    · simp [upd, h]
  have e2 : mu dx (s.tm dx) (some (j, b)) s1 = ⟨s1.tm, s1.hp.set j b⟩ := by
    have hk : s1.tm dx = s.tm dx := k1.tm dx hx2 (fun q => hx1 (lab_gone dx q))
    simp only [mu, setO, St.mk.injEq, and_true]
    funext u
    by_cases h : u = dx
    · subst h; simp [upd, hk]
    · simp [upd, h]
  rw [e1, e2] at hm
  refine ⟨⟨s.tm, s.hp.set j b⟩, q4 s hag, by rw [q1]; exact hm, lab_congr hag, ?_⟩
  refine lab_congr ⟨fun u hu => rfl, fun i hi => ?_⟩
  exact List.getElem?_set_ne (fun e => w2 j q2 (by rw [e]; exact hi))
def compatCA (a b : Lab) : Bool := a.call && b.add && disj a.gone b.looks && disj b.gone (a.looks ++ dstL a.dst) && disj a.wr b.rd && disj b.wr a.rd
def compatSt (a b : Lab) : Bool := b.sto && disj a.gone b.looks && disj a.wr b.rd && disj b.wr a.rd
def compatAdd (a b : Lab) : Bool := compatCA a b || compatSt a b
def compat2 (a b : Lab) : Bool := disj (dstL a.dst) (b.looks ++ dstL b.dst) && disj (dstL b.dst) a.looks && (compatDyn a b || compatAdd a b)
theorem compat2_of {a b : Lab} (h : compat a b = true) : compat2 a b = true := by
  simp only [compat, compat2, Bool.and_eq_true, Bool.or_eq_true] at h ⊢
  exact ⟨h.1, .inl h.2⟩
theorem swap2 {C n ops x y s s1 s2} (h1 : gstep C n ops x s s1) (h2 : gstep C n ops y s1 s2) (hc : compat2 (labD C.P ops x s) (labD C.P ops y s1) = true)
    (hL : ((labD C.P ops y s1).simple = true ∨ (labD C.P ops y s1).sto = true) → ∀ i ∈ (labD C.P ops y s1).rd, i < s.hp.length) (hone : compat (labD C.P ops x s) (labD C.P ops y s1) = true ∨ s2.hp.length ≤ s.hp.length + 1) :
    ∃ s1', gstep C n ops y s s1' ∧ gstep C n ops x s1' s2 ∧ labD C.P ops y s = labD C.P ops y s1 ∧ labD C.P ops x s1' = labD C.P ops x s := by
  rcases hone with hone | hone
  · exact swap h1 h2 hone (fun h => hL (.inl h))
  simp only [compat2, Bool.and_eq_true, Bool.or_eq_true] at hc
  obtain ⟨⟨p2, p3⟩, hc | hc⟩ := hc
  · exact swap h1 h2 (by simp only [compat, Bool.and_eq_true]; exact ⟨⟨p2, p3⟩, hc⟩) (fun h => hL (.inl h))
  simp only [compatAdd, Bool.or_eq_true] at hc
  rcases hc with hc | hc
  rotate_left
  · simp only [compatSt, Bool.and_eq_true] at hc
    obtain ⟨⟨⟨c1, c2⟩, c3⟩, c4⟩ := hc
    rw [lab_dst, lab_dst, lab_looks] at p2
    rw [lab_looks] at c2
    exact swapSt h1 h2 c1 p2 c2 c3 c4 (hL (.inr c1))
  · simp only [compatCA, Bool.and_eq_true] at hc
    obtain ⟨⟨⟨⟨⟨c1, c2⟩, c3⟩, c4⟩, c5⟩, c6⟩ := hc
    rw [lab_dst, lab_dst, lab_looks] at p2
    rw [lab_dst, lab_looks] at p3
    rw [lab_looks] at c3
    rw [lab_looks, lab_dst] at c4
    refine swapC h1 h2 c1 c2 p2 p3 c3 c4 c5 c6 ?_
    have k1 := (gstep_keeps h1).len
    -- the second one lays a box
    have hys : skips ops y s1 = false := by
      cases hq : skips ops y s1 with
      | false => rfl
      | true => simp [labD, hq] at c2
    have hya : adB y s1 = true := by
      have : (labD C.P ops y s1).add = adB y s1 := by unfold labD; rw [if_neg (by rw [hys]; simp)]
      rw [← this]; exact c2
    obtain ⟨g', m1, m2, m3⟩ := h2
    have hgt : g' = true := by
      cases g' with
      | true => rfl
      | false => simp [skips, m1] at hys
    subst hgt
    simp only [if_true] at m3
    have m3' : stepD C.P n (takes ops y) y s1 = some s2 := by
      unfold opTo at m3
      split at m3
      · rename_i c' hop'
        split at m3
        · rename_i x' hc'
          simp [adB, hop', hc'] at hya
        · exact m3
      · exact m3
    obtain ⟨own?, old?, d, v, cc, q1, q2, _⟩ := add_eff m3' hya
    have : s2.hp.length = s1.hp.length + 1 := by rw [q2, eff_hp]; simp [killB_len]
    omega
end Go.Proofs.Dm
