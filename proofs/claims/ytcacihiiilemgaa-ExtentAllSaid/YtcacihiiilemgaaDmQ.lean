/- The D-machine, part Q: steps that change places. -/
import Derived.Test.YtcacihiiilemgaaDmP
set_option linter.unusedVariables false
set_option linter.unusedSimpArgs false
namespace Go.Proofs.Dm
open Go Go.RowKit

theorem writeBack_keep : ∀ {hp : List (List DV)} {ids : List Nat} {bs : List (List DV)} {j : Nat}, j < hp.length → j ∉ ids → (writeBack hp ids bs)[j]? = hp[j]? ∧ hp.length ≤ (writeBack hp ids bs).length
  | hp, [], bs, j, h, hn => by
    have : writeBack hp [] bs = hp ++ bs := by cases bs <;> rfl
    rw [this]; exact ⟨List.getElem?_append_left h, by simp⟩
  | hp, i :: is, [], j, h, hn => by simp [writeBack]
  | hp, i :: is, b :: bs, j, h, hn => by
    simp only [writeBack]
    have ih := writeBack_keep (hp := hp.set i b) (ids := is) (bs := bs) (j := j) (by simpa using h) (fun q => hn (by simp [q]))
    rw [ih.1, List.getElem?_set_ne (fun e => hn (by simp [e]))]
    exact ⟨rfl, by simpa using ih.2⟩
theorem writeBack_le : ∀ {hp : List (List DV)} {ids : List Nat} {bs : List (List DV)}, hp.length ≤ (writeBack hp ids bs).length
  | hp, [], bs => by
    have : writeBack hp [] bs = hp ++ bs := by cases bs <;> rfl
    rw [this]; simp
  | hp, i :: is, [] => by simp [writeBack]
  | hp, i :: is, b :: bs => by
    simp only [writeBack]
    have := writeBack_le (hp := hp.set i b) (ids := is) (bs := bs)
    simpa using this

theorem opTo_keeps {C n tk o s s'} (e : opTo C n tk o s s') : Keeps s s' o.dst (goneD tk o s) (wrD C.P tk o s) := by
  unfold opTo at e
  split at e
  · rename_i c hop
    split at e
    · rename_i x hc
      have hgd : goneD tk o s = goneL s (looksD o) := by simp [goneD, eatsT, eats, hop, hc]
      rw [hgd]
      obtain ⟨h0, f, cap, ds, sub, args, r, bs', h1, h2, h3, h4, h5, h6, h7, h8⟩ := e
      subst h8
      have hw : wrD C.P tk o s = reach s.hp (ds ++ cap) := by simp only [wrD, rdD, hop, hc, h1, h2]
      have k := keeps_put (s := { s.kills (given s c.args.toList) with hp := writeBack s.hp (reach s.hp (ds ++ cap)) (bs'.map (mapRefs (backId (reach s.hp (ds ++ cap)) s.hp.length))) }) (d := o.dst)
        (v := mapRef (backId (reach s.hp (ds ++ cap)) s.hp.length) r) (gone := goneL s (looksD o)) (wr := wrD C.P tk o s)
      refine ⟨fun u hu hg => ?_, fun j hj hwj => ?_, ?_⟩
      · unfold afterCall
        rw [k.tm u hu hg]
        simp only [St.kills]
        rw [if_neg]
        intro q
        have q : u ∈ given s c.args.toList := by simpa using q
        obtain ⟨q1, q2⟩ := given_mem.1 q
        exact hg (goneL_mem.2 ⟨mem_looks.2 (by rw [hop]; simp only [Op.operands, Call.operands, Array.toList_append, List.mem_append]; exact .inr q1), q2⟩)
      · unfold afterCall
        rw [hw] at hwj
        have q := writeBack_keep (bs := bs'.map (mapRefs (backId (reach s.hp (ds ++ cap)) s.hp.length))) hj hwj
        have : (({ s.kills (given s c.args.toList) with hp := writeBack s.hp (reach s.hp (ds ++ cap)) (bs'.map (mapRefs (backId (reach s.hp (ds ++ cap)) s.hp.length))) } : St).put o.dst (mapRef (backId (reach s.hp (ds ++ cap)) s.hp.length) r)).hp = writeBack s.hp (reach s.hp (ds ++ cap)) (bs'.map (mapRefs (backId (reach s.hp (ds ++ cap)) s.hp.length))) := by
          cases o.dst <;> rfl
        rw [this]; exact q.1
      · unfold afterCall
        have : (({ s.kills (given s c.args.toList) with hp := writeBack s.hp (reach s.hp (ds ++ cap)) (bs'.map (mapRefs (backId (reach s.hp (ds ++ cap)) s.hp.length))) } : St).put o.dst (mapRef (backId (reach s.hp (ds ++ cap)) s.hp.length) r)).hp = writeBack s.hp (reach s.hp (ds ++ cap)) (bs'.map (mapRefs (backId (reach s.hp (ds ++ cap)) s.hp.length))) := by
          cases o.dst <;> rfl
        rw [this]; exact writeBack_le
    · exact stepD_keeps' e
  · exact stepD_keeps' e

theorem gstep_keeps {C n ops o s s'} (e : gstep C n ops o s s') : Keeps s s' (labD C.P ops o s).dst (labD C.P ops o s).gone (labD C.P ops o s).wr := by
  obtain ⟨g, h1, h2, h3⟩ := e
  cases g with
  | true =>
    have hs : skips ops o s = false := by simp [skips, h1]
    simp only [if_true] at h3
    simp only [labD, hs, Bool.false_eq_true, if_false]
    exact opTo_keeps h3
  | false =>
    have hs : skips ops o s = true := by simp [skips, h1]
    simp only [Bool.false_eq_true, if_false] at h3
    subst h3
    simp only [labD, hs, if_true]
    exact keeps_put

/-! ### agreement -/
structure Agree (ops : List Oper) (o : Oper) (rd : List Nat) (s t : St) : Prop where
  tm : ∀ u ∈ looksG ops o, t.tm u = s.tm u
  hp : ∀ i ∈ rd, t.hp[i]? = s.hp[i]?

theorem agree_ev {ops o rd s t} (a : Agree ops o rd s t) : ∀ x ∈ o.op.operands.toList, evalD t x = evalD s x := by
  intro x hx
  cases x with
  | tmp u => simp only [evalD]; rw [a.tm u (by simp only [looksG, List.mem_append]; exact .inr (mem_looks.2 hx))]
  | _ => rfl
theorem agree_guard {ops o rd s t} (a : Agree ops o rd s t) : guardD ops.toArray o t = guardD ops.toArray o s := by
  unfold guardD
  split
  · rfl
  · rename_i j want hg
    split
    · rename_i u hu
      rw [a.tm u (by
        simp only [looksG, guardSlot, hg, List.mem_append]
        left
        simp only [List.getElem?_toArray] at hu
        rw [hu]; simp)]
    · rfl
theorem argsD_congr {s t : St} {all : List Operand} : ∀ {xs : List Operand}, (∀ x ∈ xs, evalD t x = evalD s x) → argsD t all xs = argsD s all xs
  | [], h => rfl
  | x :: xs, h => by simp only [argsD, h x (by simp), argsD_congr (xs := xs) (fun y hy => h y (by simp [hy]))]
theorem goneL_congr {s t : St} : ∀ {ts : List Tmp}, (∀ u ∈ ts, t.tm u = s.tm u) → goneL t ts = goneL s ts
  | [], h => rfl
  | x :: xs, h => by simp only [goneL, h x (by simp), goneL_congr (ts := xs) (fun y hy => h y (by simp [hy]))]
theorem anyOwn_congr {s t : St} : ∀ {ts : List Tmp}, (∀ u ∈ ts, t.tm u = s.tm u) → anyOwn t ts = anyOwn s ts
  | [], h => rfl
  | x :: xs, h => by simp only [anyOwn, h x (by simp), anyOwn_congr (ts := xs) (fun y hy => h y (by simp [hy]))]

theorem rdD_congr {ops o s t} (a : Agree ops o (rdD o s) s t) : rdD o t = rdD o s := by
  have ev := agree_ev a
  have hp := a.hp
  unfold rdD at hp ⊢
  split
  · rename_i ty x hop
    rw [ev x (by rw [hop]; simp [Op.operands])]
  · rename_i ty x y hop
    rw [ev x (by rw [hop]; simp [Op.operands])]
  · rename_i c hop
    split
    · rename_i x hc
      have h1 : calleeD t x = calleeD s x := by simp only [calleeD]; rw [ev x (by rw [hop]; simp [Op.operands, Call.operands, hc])]
      have h2 : argsD t c.args.toList c.args.toList = argsD s c.args.toList c.args.toList := argsD_congr fun y hy => ev y (by
        rw [hop]; simp only [Op.operands, Call.operands, Array.toList_append, List.mem_append]; exact .inr hy)
      rw [h1, h2]
      rw [hop] at hp
      simp only [hc] at hp
      split
      · rename_i f cap ds h3 h4
        rw [h3, h4] at hp
        exact reach_congr hp
      · rfl
    · exact argBoxes_congr fun y hy => ev y (by rw [hop]; simp only [Op.operands, Call.operands, Array.toList_append, List.mem_append]; exact .inr hy)
    · exact argBoxes_congr fun y hy => ev y (by rw [hop]; simp only [Op.operands, Call.operands, Array.toList_append, List.mem_append]; exact .inr hy)
    · rfl
  · rfl
theorem wrD_congr {P ops tk o s t} (a : Agree ops o (rdD o s) s t) : wrD P tk o t = wrD P tk o s := by
  have ev := agree_ev a
  have hr := rdD_congr a
  have hp := a.hp
  unfold wrD
  split
  · rename_i ty x hop
    rw [ev x (by rw [hop]; simp [Op.operands])]
    split
    · rename_i id off h1
      rw [hp id (by simp [rdD, hop, h1])]
    · rfl
  · exact hr
theorem simpleD_congr {ops o rd s t} {tk : Bool} (a : Agree ops o rd s t) : simpleD tk o t = simpleD tk o s := by
  have : anyOwn t (looksD o) = anyOwn s (looksD o) := anyOwn_congr fun u hu => a.tm u (by simp only [looksG, List.mem_append]; exact .inr hu)
  unfold simpleD
  rw [this]
theorem lab_congr {P ops o s t} (a : Agree ops o (labD P ops o s).rd s t) : labD P ops o t = labD P ops o s := by
  have hg : skips ops o t = skips ops o s := by simp only [skips, agree_guard a]
  unfold labD at a ⊢
  rw [hg]
  split
  · rfl
  · rename_i hs
    rw [if_neg hs] at a
    dsimp only at a
    have hgd : goneD (takes ops o) o t = goneD (takes ops o) o s := by
      simp only [goneD]
      rw [goneL_congr fun u hu => a.tm u (by simp only [looksG, List.mem_append]; exact .inr hu)]
    rw [rdD_congr a, wrD_congr a, simpleD_congr a, hgd]

/-! ### what is not felt -/
theorem stepD_mu {P n tk o dx v ib s s'} (hl : dx ∉ looksD o) (hd : o.dst ≠ some dx) (hr : ∀ i ∈ rdD o s, offBox ib i) (hb : ∀ j b, ib = some (j, b) → j < s.hp.length)
    (e : stepD P n tk o s = some s') : stepD P n tk o (mu dx v ib s) = some (mu dx v ib s') := by
  have ev := ev_mu (dx := dx) (v := v) (ib := ib) (s := s) hl
  have ne : ∀ x ∈ o.op.operands.toList, x ≠ .tmp dx := fun x hx q => hl (mem_looks.2 (by rw [← q]; exact hx))
  unfold stepD at e ⊢
  split at e
  · rename_i h0
    try rw [if_pos h0]
    split at e
    · rename_i x hop; exact moveD_mu hl hd (by rw [hop]; simp [Op.operands]) e
    · rename_i x hop; exact moveD_mu hl hd (by rw [hop]; simp [Op.operands]) e
    · rename_i t hop; exact allocD_mu hd hb e
    · rename_i t x hop; exact boxD_mu (ne x (by rw [hop]; simp [Op.operands])) hd hb e
    · rename_i t x hop; exact loadD_mu (ne x (by rw [hop]; simp [Op.operands])) hd (fun id off h => hr id (by simp [rdD, hop, h])) e
    · rename_i t x y hop; exact storeD_mu (ne x (by rw [hop]; simp [Op.operands])) (ne y (by rw [hop]; simp [Op.operands])) (fun id off h => hr id (by simp [rdD, hop, h])) e
    · rename_i t parts hop
      have hp : ∀ p ∈ parts.toList, p.2 ≠ .tmp dx := fun p hp => ne p.2 (by rw [hop]; simp only [Op.operands, List.toList_toArray, List.mem_map]; exact ⟨p, hp, rfl⟩)
      refine buildD_mu hp hd (fun pl zc cells ts off h => ?_) e
      rcases stepD_keeps.fillD_owner _ _ _ _ _ _ h with q | ⟨i, q1, q2⟩
      · cases q
      · intro q; exact hp _ q1 (by rw [q])
    · rename_i t len parts hop
      exact buildSliceD_mu (fun p hp => ne p.2 (by rw [hop]; simp only [Op.operands, List.toList_toArray, List.mem_map]; exact ⟨p, hp, rfl⟩)) hd e
    · rename_i t l c hop; exact makeSliceD_mu (ne l (by rw [hop]; simp [Op.operands])) (ne c (by rw [hop]; simp [Op.operands])) hd hb e
    · rename_i c hop
      have nec : ∀ x ∈ c.args.toList, x ≠ .tmp dx := fun x hx => ne x (by rw [hop]; simp only [Op.operands, Call.operands, Array.toList_append, List.mem_append]; exact .inr hx)
      have evc : ∀ x ∈ c.args.toList, evalD (mu dx v ib s) x = evalD s x := fun x hx => ev x (by rw [hop]; simp only [Op.operands, Call.operands, Array.toList_append, List.mem_append]; exact .inr hx)
      split at e
      · rename_i hc
        try simp only [hc]
        rw [needA_congr evc]
        split at e
        · rename_i hna
          rw [if_pos hna]
          exact appendA_mu nec hd (fun i hi => hr i (by simp only [rdD, hop, hc]; exact hi)) hb e
        rename_i hna
        rw [if_neg hna]
        exact appendD_mu (fun x hx => ne x (by rw [hop]; simp only [Op.operands, Call.operands, Array.toList_append, List.mem_append]; exact .inr hx)) hd e
      · rename_i hc
        try simp only [hc]
        exact copyD_mu nec hd (fun i hi => hr i (by simp only [rdD, hop, hc]; exact hi)) e
      · rename_i hc
        obtain ⟨d, h1, h2⟩ := Option.map_eq_some_iff.1 e
        subst h2
        have : callD P (evalD (mu dx v ib s)) c = callD P (evalD s) c := callD_congr fun x hx => ev x (by rw [hop]; simpa only [Op.operands] using hx)
        rw [this, h1]; simp only [Option.map_some, put_mu hd]
    · obtain ⟨d, h1, h2⟩ := Option.map_eq_some_iff.1 e
      subst h2
      have : pureD P (evalD (mu dx v ib s)) o.op = pureD P (evalD s) o.op := pureD_congr ev
      rw [this, h1]; simp only [Option.map_some, put_mu hd]
  · cases e

theorem gstep_mu {C n ops o dx v ib s s'} (hl : dx ∉ looksG ops o) (hd : o.dst ≠ some dx) (hr : ∀ i ∈ (labD C.P ops o s).rd, offBox ib i) (hb : ∀ j b, ib = some (j, b) → j < s.hp.length)
    (e : gstep C n ops o s s') : gstep C n ops o (mu dx v ib s) (mu dx v ib s') := by
  have hl' : dx ∉ looksD o := fun q => hl (by simp only [looksG, List.mem_append]; exact .inr q)
  obtain ⟨g, h1, h2, h3⟩ := e
  have hg : guardD ops.toArray o (mu dx v ib s) = guardD ops.toArray o s := by
    refine agree_guard (rd := []) (s := s) ⟨fun u hu => tm_mu (fun q => hl (by rw [← q]; exact hu)), by simp⟩
  refine ⟨g, by rw [hg]; exact h1, h2, ?_⟩
  cases g with
  | false =>
    simp only [Bool.false_eq_true, if_false] at h3 ⊢
    subst h3
    exact (put_mu hd).symm
  | true =>
    have hs : skips ops o s = false := by simp [skips, h1]
    simp only [labD, hs, Bool.false_eq_true, if_false] at hr
    simp only [if_true] at h3 ⊢
    unfold opTo at h3 ⊢
    split at h3
    · rename_i c hop
      split at h3
      · rename_i x hc
        have ne : ∀ y ∈ o.op.operands.toList, y ≠ .tmp dx := fun y hy q => hl' (mem_looks.2 (by rw [← q]; exact hy))
        refine callTo_mu (ne x (by rw [hop]; simp [Op.operands, Call.operands, hc])) (fun y hy => ne y (by rw [hop]; simp only [Op.operands, Call.operands, Array.toList_append, List.mem_append]; exact .inr hy)) hd hb ?_ h3
        intro f cap ds k1 k2 i hi
        exact hr i (by simp only [rdD, hop, hc, k1, k2]; exact hi)
      · exact stepD_mu hl' hd hr hb h3
    · exact stepD_mu hl' hd hr hb h3
end Go.Proofs.Dm
