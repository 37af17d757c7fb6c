/- Part of the proof: contracts of the functions, walked by the D-machine. No condition. -/
import Derived.Test.YtmlhdhpjcipcdaaGreatDoorDd
set_option linter.unusedVariables false
set_option linter.unusedSimpArgs false
namespace Go.Proofs.Dm
open Go Go.RowKit
def srcC (z : Nat) (s : St) (y : Operand) : Option (List DV × Nat) :=
  match evalD s y with
  | some (.arr id off z' n) => match s.hp[id]? with
    | some box => if z' = z ∧ 0 < n ∧ off + n * z ≤ box.length ∧ box ≠ [] ∧ hasOwns ((box.drop off).take (n * z)) = false ∧ solids ((box.drop off).take (n * z)) = true then some ((box.drop off).take (n * z), n) else none
    | none => none
  | some .nil => some ([], 0)
  | some d => match elems d with
    | some (z', ys) => if z' = z then some (flatP ys, ys.length) else none
    | none => none
  | none => none
theorem srcC_ok {C w0 h0 ow0 r0 n s a w h ow ρ} (r : Rel C w0 h0 ow0 r0 n s a w h ow ρ) {z : Nat} {y : Operand} {src : List DV} {m : Nat} (e : srcC z s y = some (src, m)) :
    ∃ b c vs, a.eval y = .slice b m c ∧ vs.length = m * z ∧ (b = none → m = 0) ∧ (∀ ad, b = some ad → 0 < m → ∀ j u, vs[j]? = some u → w.cell? (ad.add j) = some u) ∧
      (∀ O k, RepDs w h ρ src O k vs) ∧ ∀ u ∈ vs, u.oneCell' = true := by
  unfold srcC at e
  split at e
  · rename_i id off z' n' hy
    split at e
    · rename_i box hb
      split at e
      · rename_i hc
        obtain ⟨rfl, h0, hoff, hne, hown, hsol⟩ := hc
        injection e with e; injection e with e1 e2; subst e1; subst e2
        have hy' := evalD_rep r hy
        simp only [RepD] at hy'
        obtain ⟨b, hρ, ⟨q, _⟩ | ⟨cap, cs0, T0, f0, q1, q2, q3, q4⟩⟩ := hy'
        · omega
        obtain ⟨p1, p2, cs, T, hh, hl0, hrr⟩ := r.hr.box id box b hb hρ hne
        have hdt : ((cs.toList.take box.length).drop off).take (n' * z') = (cs.toList.drop off).take (n' * z') := by
          rw [List.drop_take, List.take_take]; congr 1; omega
        have hsub := repDs_part hrr off (n' * z')
        rw [hdt] at hsub
        have hany : ∀ O k, RepDs w h ρ ((box.drop off).take (n' * z')) O k ((cs.toList.drop off).take (n' * z')) := fun O k => hsub.free_any hown O k
        refine ⟨_, cap, (cs.toList.drop off).take (n' * z'), q2, by simp; omega, (fun q => by cases q), fun ad had _ j u hj => ?_, hany, fun u hu => ?_⟩
        · injection had with had; subst had
          rw [addr_add]
          rw [List.getElem?_take] at hj
          split at hj
          · rw [List.getElem?_drop, Array.getElem?_toList] at hj
            simp [World.cell?, hh, hj]
          · cases hj
        · obtain ⟨i, hi⟩ := List.mem_iff_getElem?.1 hu
          have hil : i < ((box.drop off).take (n' * z')).length := by
            have := (hany (fun _ _ => False) 0).length
            rw [← this]; exact (List.getElem?_eq_some_iff.1 hi).1
          obtain ⟨v', k1, k2⟩ := (hany (fun _ _ => False) 0).get i _ (List.getElem?_eq_getElem hil)
          rw [k1] at hi; injection hi with hi; subst hi
          exact solid_one (solids_get hsol i _ (List.getElem?_eq_getElem hil)) k2
      · cases e
    · cases e
  · rename_i hy
    injection e with e; injection e with e1 e2; subst e1; subst e2
    have hy' := evalD_rep r hy
    simp only [RepD] at hy'
    exact ⟨none, 0, [], hy', by simp, fun _ => rfl, (fun ad had => by cases had), fun O k => by simp only [RepDs], by simp⟩
  · rename_i d _ _ hy
    split at e
    · rename_i z' ys he
      split at e
      · rename_i hz
        subst hz
        injection e with e; injection e with e1 e2; subst e1; subst e2
        have hr := elems_rep he (evalD_rep r hy)
        simp only [Rep] at hr
        rcases hr with ⟨rfl, b, c, hv, hbc⟩ | ⟨g, off, cap, hv, hcap, hh, hzz, rr⟩
        · exact ⟨b, c, [], hv, by simp, fun _ => rfl, fun ad had h0 => by simp at h0, fun O k => by simp [flatP, RepDs], by simp⟩
        · obtain ⟨vs, k1, k2, k3, k4⟩ := rows_vals hzz rr
          exact ⟨_, cap, vs, hv, k1, (fun q => by cases q), fun ad had _ j u hj => by injection had with had; subst had; rw [addr_add]; exact k2 j u hj,
            fun O k => flatP_rep (by rw [rowsLen ys _ hzz, k1]) k3 O k, k4⟩
      · cases e
    · cases e
  · cases e
def copyD (P : Program) (o : Oper) (c : Call) (s : St) : Option St :=
  match c.args.toList, c.argTypes.toList with
  | [x, y], [t, t'] => match tslice P t with
    | some e => match tsz P e, evalD s x with
      | some z, some (.arr id off z' n) => match s.hp[id]?, srcC z s y with
        | some box, some (src, m) => if min m n = 0 then some (s.put o.dst (.p (.int .i64 0))) else if z' = z ∧ 0 < z ∧ 0 < min m n ∧ off + n * z ≤ box.length ∧ box ≠ [] ∧ hasOwns src = false then
            some ({ s with hp := s.hp.set id (box.take off ++ src.take (min m n * z) ++ box.drop (off + min m n * z)) }.put o.dst (.p (.int .i64 (min m n : Nat)))) else none
        | _, _ => none
      | _, _ => none
    | none => none
  | _, _ => none
theorem copyD_ok {C w0 h0 ow0 r0 n o c s s'} (hop : o.op = .call c) (hcal : c.callee = .builtin .copy) (hd : dstOk n o.dst = true) (e : copyD C.P o c s = some s') : StepOK C w0 h0 ow0 r0 n o s s' := by
  intro a w h ow ρ r K Q hK
  obtain ⟨callee, args, types⟩ := c
  dsimp only at hcal; subst hcal
  unfold copyD at e
  split at e
  · rename_i x y t t' ha ht'
    dsimp only at ha ht'
    obtain rfl : args = #[x, y] := by rw [← Array.toArray_toList (xs := args), ha]
    obtain rfl : types = #[t, t'] := by rw [← Array.toArray_toList (xs := types), ht']
    split at e
    · rename_i el hts
      split at e
      · rename_i z id off z' k hz hx
        split at e
        · rename_i box src m hb hsrc
          split at e
          · rename_i hz0
            injection e with e; subst e
            obtain ⟨b2, c2, vs, hvy, hvl, hbn, hcell, hrep, hone⟩ := srcC_ok r hsrc
            have hx' := evalD_rep r hx
            simp only [RepD] at hx'
            have hload : ∀ (q : Addr), (loadCells q 0).run C.P w = .ok #[] w := fun q => by simpa using run_loadCells_list (P := C.P) w q [] (by simp)
            have hmin : Nat.min m k = 0 := hz0
            have hu := tslice_spec hts
            have main : ∀ (ax : Option Addr) (c : Nat), a.eval x = .slice ax k c → o.wp C.P a w K Q := by
              intro ax c hvx
              have hrun : (execOp a.eval o).run C.P w = .ok (.value (.int .i64 0)) w := by
                simp only [execOp, hop, resolve, invoke, Sem.run_bind]
                cases b2 <;> cases ax <;> simp [builtin, Builtin.copy_, hvx, hvy, run_underlying hu, Builtin.lenOf, Builtin.firstCells, tsz_spec hz, hload, hmin, goInt, storeCells]
              unfold Oper.wp
              rw [hrun]
              exact hK _ _ _ _ _ (r.put o.dst hd fun O => by simp only [RepD, Rep])
            obtain ⟨b, hρ, ⟨rfl, ax, c, hv, _⟩ | ⟨cap, cs0, T0, f0, q1, q2, q3, q4⟩⟩ := hx'
            · exact main ax c hv
            · exact main _ cap q2
          split at e
          · rename_i hc
            obtain ⟨rfl, h0z, hmin, hoff, hne, hown⟩ := hc
            injection e with e; subst e
            obtain ⟨b2, c2, vs, hvy, hvl, hbn, hcell, hrep, hone⟩ := srcC_ok r hsrc
            have hx' := evalD_rep r hx
            simp only [RepD] at hx'
            obtain ⟨b, hρ, ⟨q, _⟩ | ⟨cap, cs0, T0, f0, q1, q2, q3, q4⟩⟩ := hx'
            · omega
            obtain ⟨p1, p2, cs, T, hh, hl0, hrr⟩ := r.hr.box id box b hb hρ hne
            obtain ⟨ad, rfl⟩ : ∃ ad, b2 = some ad := by
              cases b2 with
              | none => have := hbn rfl; omega
              | some ad => exact ⟨ad, rfl⟩
            have hmk : min m k * z' ≤ k * z' := Nat.mul_le_mul_right _ (Nat.min_le_right _ _)
            have hmm : min m k * z' ≤ m * z' := Nat.mul_le_mul_right _ (Nat.min_le_left _ _)
            have hload := run_loadCells_list (P := C.P) w ad (vs.take (min m k * z')) (fun j u hj => hcell ad rfl (by omega) j u (by
              rw [List.getElem?_take] at hj
              split at hj
              · exact hj
              · cases hj))
            have hvtl : (vs.take (min m k * z')).length = min m k * z' := by simp; omega
            rw [hvtl] at hload
            have hst := run_storeCells_at C.P b off T (vs.take (min m k * z')) 0 cs w hh (by rw [hvtl]; omega) (fun u hu => hone u (List.mem_of_mem_take hu))
            have hrun : (execOp a.eval o).run C.P w = .ok (.value (.int .i64 (min m k : Nat))) (w.setRow b (cs.toList.take off ++ vs.take (min m k * z') ++ cs.toList.drop (off + min m k * z')).toArray) := by
              simp only [Nat.add_zero, hvtl] at hst
              have hu := tslice_spec hts
              simp only [execOp, hop, resolve, invoke, Sem.run_bind]
              simp [builtin, Builtin.copy_, q2, hvy, run_underlying hu, Builtin.lenOf, Builtin.firstCells, tsz_spec hz, hload, hst, goInt]
            unfold Oper.wp
            rw [hrun]
            show K (a.put o.dst _) _
            have hst2 := r.stored (z := min m k * z') (ds := src.take (min m k * z')) (vs := vs.take (min m k * z')) hb hρ hh (by
              have := (hrep (fun _ _ => False) 0).length
              simp; omega) (by omega) hne (fun x => x) (fun i => rfl) (fun p => rfl) (RepDs.of_get (by
              have := (hrep (fun _ _ => False) 0).length
              simp; omega) fun i d u hd hu => ?_) { s with hp := s.hp.set id (box.take off ++ src.take (min m k * z') ++ box.drop (off + min m k * z')) } rfl r.dom (fun i => .inr ⟨rfl, fun p => rfl⟩)
            · have hmap : (fun g => (ow g).map (fun x => x)) = ow := by funext g; cases ow g <;> rfl
              exact hK _ _ _ _ _ (hst2.put o.dst hd fun O => by simp only [RepD, Rep])
            · rw [List.getElem?_take] at hd hu
              split at hd
              · rename_i hi
                rw [if_pos hi] at hu
                obtain ⟨v', k1, k2⟩ := (hrep (fun _ _ => False) 0).get i d hd
                rw [k1] at hu; injection hu with hu; subst hu
                exact RepD.free _ _ _ _ (hasOwns_get hown i d hd) k2
              · cases hd
          · cases e
        · cases e
      · cases e
    · cases e
  · cases e
def clearD (P : Program) (o : Oper) (c : Call) (s : St) : Option St :=
  match c.args.toList, c.argTypes.toList with
  | [x], [t] => match tslice P t with
    | some e => match tsz P e, zeroCells P e, evalD s x with
      | some z, some zc, some (.arr id off z' n) => match s.hp[id]? with
        | some box => if n = 0 then some (s.put o.dst (.tup [])) else if z' = z ∧ 0 < z ∧ zc.length = z ∧ off + n * z ≤ box.length ∧ box ≠ [] ∧ hasOwns zc = false ∧ solids zc = true then
            some ({ s with hp := s.hp.set id (box.take off ++ (List.replicate n zc).flatten ++ box.drop (off + n * z)) }.put o.dst (.tup [])) else none
        | none => none
      | _, _, _ => none
    | none => none
  | _, _ => none
theorem clearD_ok {C w0 h0 ow0 r0 n o c s s'} (hop : o.op = .call c) (hcal : c.callee = .builtin .clear) (hd : dstOk n o.dst = true) (e : clearD C.P o c s = some s') : StepOK C w0 h0 ow0 r0 n o s s' := by
  intro a w h ow ρ r K Q hK
  obtain ⟨callee, args, types⟩ := c
  dsimp only at hcal; subst hcal
  unfold clearD at e
  split at e
  · rename_i x t ha ht'
    dsimp only at ha ht'
    obtain rfl : args = #[x] := by rw [← Array.toArray_toList (xs := args), ha]
    obtain rfl : types = #[t] := by rw [← Array.toArray_toList (xs := types), ht']
    split at e
    · rename_i el hts
      split at e
      · rename_i z zc id off z' k hz hzc hx
        split at e
        · rename_i box hb
          have hx' := evalD_rep r hx
          simp only [RepD] at hx'
          have hu := tslice_spec hts
          obtain ⟨zv, hzv, hzr⟩ := zeroCells_rep hzc
          split at e
          · rename_i hk0
            subst hk0
            injection e with e; subst e
            have main : ∀ (ax : Option Addr) (c : Nat), a.eval x = .slice ax 0 c → o.wp C.P a w K Q := by
              intro ax c hvx
              have hrun : (execOp a.eval o).run C.P w = .ok (.value (.tuple #[])) w := by
                simp only [execOp, hop, resolve, invoke, Sem.run_bind]
                cases ax <;> simp [builtin, Builtin.clear_, hvx, run_underlying hu]
              unfold Oper.wp
              rw [hrun]
              exact hK _ _ _ _ _ (r.put o.dst hd fun O => by simp [RepD, RepDs])
            obtain ⟨b, hρ, ⟨_, ax, c, hv, _⟩ | ⟨cap, cs0, T0, f0, q1, q2, q3, q4⟩⟩ := hx'
            · exact main ax c hv
            · exact main _ cap q2
          split at e
          · rename_i hk0 hc
            obtain ⟨rfl, h0z, hzl, hoff, hne, hown, hsol⟩ := hc
            injection e with e; subst e
            obtain ⟨b, hρ, ⟨q, _⟩ | ⟨cap, cs0, T0, f0, q1, q2, q3, q4⟩⟩ := hx'
            · exact absurd q hk0
            obtain ⟨p1, p2, cs, T, hh, hl0, hrr⟩ := r.hr.box id box b hb hρ hne
            have hzcl : zv.cells.toList.length = z' := by rw [(hzr (w := w) (h := h) (ρ := ρ) (fun _ _ => False)).length, hzl]
            have hzs : zv.cells.size = z' := by simpa using hzcl
            obtain ⟨vs, hvs⟩ : ∃ vs, (Builtin.zeroCells zv.cells k).toList = vs := ⟨_, rfl⟩
            have hvl : vs.length = k * z' := by
              rw [← hvs]
              simp [Builtin.zeroCells, hzs]
            have hget : ∀ j, j < k * z' → ∃ v, vs[j]? = some v ∧ zv.cells.toList[j % z']? = some v := by
              intro j hj
              have hjm : j % z' < zv.cells.size := by rw [hzs]; exact Nat.mod_lt _ h0z
              refine ⟨zv.cells[j % z'], ?_, by simp [hjm]⟩
              rw [← hvs, Array.getElem?_toList]
              simp only [Builtin.zeroCells]
              simp [Array.getElem?_map, hj, hzs]
              rw [getElem!_def, Array.getElem?_eq_getElem hjm]
            have hbl : ((List.replicate k zc).flatten).length = k * z' := by
              simp [List.length_flatten, hzl]
            have hrep : RepDs w h ρ (List.replicate k zc).flatten (fun _ _ => False) 0 vs := by
              refine RepDs.of_get (by rw [hvl, hbl]) fun j dd v hdj hvj => ?_
              have hj : j < k * z' := by rw [← hbl]; exact (List.getElem?_eq_some_iff.1 hdj).1
              rw [flat_rep_get zc z' hzl _ j hj] at hdj
              obtain ⟨v1, g1, g2⟩ := hget j hj
              rw [g1] at hvj; injection hvj with hvj; subst hvj
              obtain ⟨v', p1, p2⟩ := (hzr (w := w) (h := h) (ρ := ρ) (fun _ _ => False)).get (j % z') dd hdj
              rw [g2] at p1; injection p1 with p1; subst p1
              exact RepD.free _ _ _ _ (hasOwns_get hown _ _ hdj) p2
            have hone : ∀ u ∈ vs, u.oneCell' = true := by
              intro u hu
              obtain ⟨j, hj⟩ := List.mem_iff_getElem?.1 hu
              have hjl : j < k * z' := by rw [← hvl]; exact (List.getElem?_eq_some_iff.1 hj).1
              obtain ⟨v1, g1, g2⟩ := hget j hjl
              rw [g1] at hj; injection hj with hj; subst hj
              have hjm : j % z' < zc.length := by rw [hzl]; exact Nat.mod_lt _ h0z
              obtain ⟨v', p1, p2⟩ := (hzr (w := w) (h := h) (ρ := ρ) (fun _ _ => False)).get (j % z') _ (List.getElem?_eq_getElem hjm)
              rw [g2] at p1; injection p1 with p1; subst p1
              exact solid_one (solids_get hsol _ _ (List.getElem?_eq_getElem hjm)) p2
            have hst := run_storeCells_at C.P b off T vs 0 cs w hh (by rw [hvl]; omega) hone
            have hrun : (execOp a.eval o).run C.P w = .ok (.value (.tuple #[])) (w.setRow b (cs.toList.take off ++ vs ++ cs.toList.drop (off + k * z')).toArray) := by
              simp only [Nat.add_zero, hvl] at hst
              simp only [execOp, hop, resolve, invoke, Sem.run_bind]
              obtain ⟨k', rfl⟩ : ∃ k', k = k' + 1 := ⟨k - 1, by omega⟩
              simp [builtin, Builtin.clear_, q2, run_underlying hu, tzero_spec hzv, hvs, hst]
            unfold Oper.wp
            rw [hrun]
            show K (a.put o.dst _) _
            have hst2 := r.stored (z := k * z') (ds := (List.replicate k zc).flatten) (vs := vs) hb hρ hh hbl (by omega) hne (fun x => x) (fun i => rfl) (fun p => rfl) (RepDs.of_get (by rw [hvl, hbl]) fun i d u hd hu => by
              obtain ⟨v', k1, k2⟩ := hrep.get i d hd
              rw [k1] at hu; injection hu with hu; subst hu
              have : hasOwn d = false := by
                have hj : i < k * z' := by rw [← hbl]; exact (List.getElem?_eq_some_iff.1 hd).1
                rw [flat_rep_get zc z' hzl _ i hj] at hd
                exact hasOwns_get hown _ _ hd
              exact RepD.free _ _ _ _ this k2) { s with hp := s.hp.set id (box.take off ++ (List.replicate k zc).flatten ++ box.drop (off + k * z')) } rfl r.dom (fun i => .inr ⟨rfl, fun p => rfl⟩)
            have hmap : (fun g => (ow g).map (fun x => x)) = ow := by funext g; cases ow g <;> rfl
            exact hK _ _ _ _ _ (hst2.put o.dst hd fun O => by simp [RepD, RepDs])
          · cases e
        · cases e
      · cases e
    · cases e
  · cases e
theorem append_new {P : Program} {t e : TypeId} {z by_ : Nat} {zv : Value} {i : TypeInfo} (hu : P.underlying t = some (.slice e)) (hi : P.info? e = some i) (hi2 : i.size = z) (hi3 : i.bytes = by_) (hi4 : i.zero = some zv) (hzz : zv.cells.size = z)
    {w : World} (ty : TypeId) (a : Option Addr) (n c : Nat) (olds : List Value) (hlo : olds.length = n * z) (ha : a = none → n = 0 ∧ c = 0)
    (holds : ∀ ad, a = some ad → ∀ j u, olds[j]? = some u → w.cell? (ad.add j) = some u) (ad : Addr) (m c' : Nat) (news : List Value) (hl : news.length = m * z) (hnews : ∀ j u, news[j]? = some u → w.cell? (ad.add j) = some u)
    (hg : c < n + m) (hm : 0 < m) (hb : (n + m) * by_ ≤ 140737488355328) (hmx : n + m ≤ maxLen) :
    ∃ cap w' cur, (Builtin.append_ #[t, t] ty #[.slice a n c, .slice (some ad) m c']).run P w = .ok (.slice (some ⟨w.heap.size, 0, none⟩) (n + m) cap) w' ∧ n + m ≤ cap ∧
      w'.heap[w.heap.size]? = some (.cells cur e (0, 0)) ∧ cur.size = cap * z ∧ cur.toList.take ((n + m) * z) = olds ++ news ∧ w.grownBy w' none ∧ cap ≤ maxLen := by
  subst hi2; subst hi3
  have hsmall : n + m ≤ 9223372036854775807 := by simp only [maxLen] at hmx; omega
  have hlen : (olds ++ news).length = (n + m) * i.size := by rw [List.length_append, hlo, hl, Nat.add_mul]
  have fin : ∀ (old : Nat), old < n + m →
      n + m ≤ grownCap w (n + m) old e ∧ (olds.toArray ++ news.toArray ++ Builtin.zeroCells zv.cells (grownCap w (n + m) old e - (n + m))).size = grownCap w (n + m) old e * i.size ∧
      (olds.toArray ++ news.toArray ++ Builtin.zeroCells zv.cells (grownCap w (n + m) old e - (n + m))).toList.take ((n + m) * i.size) = olds ++ news ∧
      w.grownBy (w.drew.alloc (.cells (olds.toArray ++ news.toArray ++ Builtin.zeroCells zv.cells (grownCap w (n + m) old e - (n + m))) e)) none := by
    intro old ho
    have hge := grownCap_ge w (n + m) old e
    refine ⟨hge, ?_, ?_, ⟨rfl, rfl, rfl, by simp, fun k hk _ => heap_alloc_old w.drew _ hk⟩⟩
    · simp only [Array.size_append, List.size_toArray, size_zeroCells, hzz, hlo, hl, ← Nat.add_mul]
      congr 1
      omega
    · simp only [Array.toList_append, List.append_assoc]
      rw [← List.append_assoc, ← hlen]
      exact List.take_left
  cases a with
  | none =>
    obtain ⟨rfl, rfl⟩ := ha rfl
    have hx : olds = [] := List.eq_nil_of_length_eq_zero (by simpa using hlo)
    subst hx
    have hr := run_append_nil (P := P) w t ty e i zv hu hi hi4 ad m c' news hl hnews (by omega) (by omega) (by simp only [Nat.zero_add] at hb; omega)
    obtain ⟨f1, f2, f3, f4⟩ := fin 0 (by omega)
    simp only [Nat.zero_add, List.nil_append, Array.empty_append] at f1 f2 f3 f4 ⊢
    exact ⟨_, _, _, hr, f1, heap_alloc_new w.drew _, f2, f3, f4, by simpa using grownCap_le_maxLen w (0 + m) 0 e hmx⟩
  | some b =>
    have hr := run_append_grow (P := P) w t ty e i zv hu hi hi4 b n c olds hlo (holds b rfl) ad m c' news hl hnews hg (by omega) (growslice_fits hg hb)
    obtain ⟨f1, f2, f3, f4⟩ := fin c hg
    exact ⟨_, _, _, hr, f1, heap_alloc_new w.drew _, f2, f3, f4, grownCap_le_maxLen w (n + m) c e hmx⟩
theorem append_fit {P : Program} {t e : TypeId} {z : Nat} (hu : P.underlying t = some (.slice e)) (hz : tsz P e = some z) (ty : TypeId) (w : World) (b n c : Nat) (T : TypeId) (cs : Array Value) (hh : w.heap[b]? = some (.cells cs T (0, 0)))
    (ad : Addr) (m c' : Nat) (news : List Value) (hl : news.length = m * z) (hnews : ∀ j u, news[j]? = some u → w.cell? (ad.add j) = some u) (h1 : ∀ u ∈ news, u.oneCell' = true) (hroom : n + m ≤ c) (hfit : c * z ≤ cs.size) :
    (Builtin.append_ #[t, t] ty #[.slice (some ⟨b, 0, none⟩) n c, .slice (some ad) m c']).run P w =
      .ok (.slice (some ⟨b, 0, none⟩) (n + m) c) (w.setRow b (cs.toList.take (n * z) ++ news ++ cs.toList.drop (n * z + m * z)).toArray) := by
  have hf : (Builtin.firstCells z m (.slice (some ad) m c')).run P w = .ok news.toArray w := run_firstCells_some (P := P) w z m ad m c' news hl hnews
  have hle : (n + m) * z ≤ c * z := Nat.mul_le_mul_right _ hroom
  rw [Nat.add_mul] at hle
  have hst := run_storeCells_at P b (n * z) T news 0 cs w hh (by rw [hl]; omega) h1
  simp only [Nat.add_zero, hl] at hst
  have hadd : (⟨b, 0, none⟩ : Addr).add (n * z) = ⟨b, n * z, none⟩ := by rw [addr_add]; simp
  simp [Builtin.append_, run_underlying hu, tsz_spec hz, Builtin.lenOf, hroom, hf, hadd, hst]
def appendB (e z by_ : Nat) (d : Tmp) (x y : Operand) (s : St) : Option St :=
  match evalD s x, srcC z s y with
  | some (.mt e' z'), some (src, m) => match x with
    | .tmp ts => if e' = e ∧ z' = z ∧ 0 < m ∧ m * by_ ≤ 140737488355328 ∧ m ≤ maxLen then some { ((s.put (some ts) .un).put (some d) (.arr s.hp.length 0 z m)) with hp := s.hp ++ [src] } else none
    | _ => none
  | some (.own e' z' []), some (src, m) => match x with
    | .tmp ts => if e' = e ∧ z' = z ∧ 0 < m ∧ m * by_ ≤ 140737488355328 ∧ m ≤ maxLen then some { ((s.put (some ts) .un).put (some d) (.arr s.hp.length 0 z m)) with hp := s.hp ++ [src] } else none
    | _ => none
  | some (.arr id off z' n), some (src, m) => match s.hp[id]? with
    | some box => if off = 0 ∧ z' = z ∧ 0 < n ∧ 0 < m ∧ box.length = n * z ∧ box ≠ [] ∧ hasOwns box = false ∧ hasOwns src = false ∧ (n + m) * by_ ≤ 140737488355328 ∧ n + m ≤ maxLen then
        some { s.put (some d) (.arr s.hp.length 0 z (n + m)) with hp := s.hp.set id [] ++ [box ++ src] } else none
    | none => none
  | some (.cp z' xs), some (src, m) => if xs = [] ∧ z' = z ∧ 0 < m ∧ m * by_ ≤ 140737488355328 ∧ m ≤ maxLen ∧ (appMore z s y).isNone = true then
      some { s.put (some d) (.arr s.hp.length 0 z m) with hp := s.hp ++ [src] } else
      (match appMore z s y with
      | some ys => if z' = z ∧ (xs.length + ys.length) * by_ ≤ 140737488355328 ∧ xs.length + ys.length ≤ maxLen then some (s.put (some d) (.p (.sl z (xs ++ ys)))) else none
      | none => none)
  | some .nil, some (src, m) => if 0 < m ∧ m * by_ ≤ 140737488355328 ∧ m ≤ maxLen then some { s.put (some d) (.arr s.hp.length 0 z m) with hp := s.hp ++ [src] } else none
  | _, _ => none
def appendA (P : Program) (o : Oper) (c : Call) (s : St) : Option St :=
  match c.args.toList, c.argTypes.toList, o.dst with
  | [x, y], [t, t'], some d => match tslice P t with
    | some e => match tsz P e, tbytes P e, tzero P e with
      | some z, some by_, some zv => if t = t' ∧ 0 < z ∧ zv.cells.size = z then appendB e z by_ d x y s else none
      | _, _, _ => none
    | none => none
  | _, _, _ => none
end Go.Proofs.Dm

set_option linter.unusedVariables false
set_option linter.unusedSimpArgs false
namespace Go.Proofs.Dm
open Go Go.RowKit
theorem Rel.weak {C w0 h0 ow0 r0 n s a w h ow ρ} (r : Rel C w0 h0 ow0 r0 n s a w h ow ρ) (s' : St) (hhp : s'.hp = s.hp) (hw : ∀ i, Wk (s.tm i) (s'.tm i)) (hdom : ∀ i, n ≤ i → s'.tm i = .un) :
    Rel C w0 h0 ow0 r0 n s' a w h ow ρ :=
  ⟨r.glob, r.fr, by rw [hhp]; exact r.hr, r.defers, r.size, fun i => RepD.wk (hw i) (r.tm i), hdom, r.pre⟩
theorem own_vals {w h O e z v} (r : OwnRep w h O e z [] v) : w.ownsRow 0 e z v 0 [] ∧ ∀ g, v.ownBlock = some g → h g = 0 ∧ O g [] := by
  obtain ⟨vals, h0, ho, hx, hr, h1, hg⟩ := r
  have : vals = [] := List.eq_nil_of_length_eq_zero (by simpa using ho.1)
  subst this
  exact ⟨ho, fun g hgg => by have := hg g hgg; simpa using this⟩
theorem append_any {P : Program} {t e : TypeId} {z by_ : Nat} {zv : Value} {i : TypeInfo} (hu : P.underlying t = some (.slice e)) (hi : P.info? e = some i) (hi2 : i.size = z) (hi3 : i.bytes = by_) (hi4 : i.zero = some zv) (hzz : zv.cells.size = z)
    {w : World} (ty : TypeId) (b n c : Nat) (T : TypeId) (cs : Array Value) (hh : w.heap[b]? = some (.cells cs T (0, 0))) (hnc : n ≤ c) (hcs : c * z ≤ cs.size)
    (ad : Addr) (m c' : Nat) (news : List Value) (hl : news.length = m * z) (hnews : ∀ j u, news[j]? = some u → w.cell? (ad.add j) = some u) (h1 : ∀ u ∈ news, u.oneCell' = true)
    (hm : 0 < m) (hb : (n + m) * by_ ≤ 140737488355328) (hmx : n + m ≤ maxLen) :
    ∃ cap w' g cur T', (Builtin.append_ #[t, t] ty #[.slice (some ⟨b, 0, none⟩) n c, .slice (some ad) m c']).run P w = .ok (.slice (some ⟨g, 0, none⟩) (n + m) cap) w' ∧ n + m ≤ cap ∧
      w'.heap[g]? = some (.cells cur T' (0, 0)) ∧ cap * z ≤ cur.size ∧ cur.toList.take ((n + m) * z) = cs.toList.take (n * z) ++ news ∧ (g = w.heap.size ∨ g = b ∧ T' = T ∧ cur.size = cs.size) ∧
      (∀ k, k < w.heap.size → k ≠ g → w'.heap[k]? = w.heap[k]?) ∧ w.heap.size ≤ w'.heap.size ∧ w'.os = w.os ∧ w'.tape = w.tape ∧ w'.output = w.output := by
  have hz : tsz P e = some z := by simp [tsz, hi, hi2]
  have hnz : n * z ≤ cs.size := Nat.le_trans (Nat.mul_le_mul_right _ hnc) hcs
  by_cases hroom : n + m ≤ c
  · have hr := append_fit (P := P) hu hz ty w b n c T cs hh ad m c' news hl hnews h1 hroom hcs
    have hle : (n + m) * z ≤ c * z := Nat.mul_le_mul_right _ hroom
    rw [Nat.add_mul] at hle
    have hsz : (cs.toList.take (n * z) ++ news ++ cs.toList.drop (n * z + m * z)).toArray.size = cs.size := by simp; omega
    refine ⟨c, _, b, _, T, hr, hroom, setRow_heap w b cs _ T _ hh, by rw [hsz]; exact hcs, ?_, .inr ⟨rfl, rfl, hsz⟩, fun k _ hk => setRow_other w b k _ hk, by simp [World.setRow], rfl, rfl, rfl⟩
    rw [Nat.add_mul]
    show (cs.toList.take (n * z) ++ news ++ cs.toList.drop (n * z + m * z)).take (n * z + m * z) = _
    have : (cs.toList.take (n * z) ++ news).length = n * z + m * z := by simp; omega
    rw [← this]; exact List.take_left
  · obtain ⟨cap, w', cur, q1, q2, q3, q4, q5, q6, q7⟩ := append_new (P := P) hu hi hi2 hi3 hi4 hzz (w := w) ty (some ⟨b, 0, none⟩) n c (cs.toList.take (n * z)) (by simp; omega) (fun q => by cases q)
      (fun ad0 had j u hj => by
        injection had with had; subst had
        rw [addr_add]
        rw [List.getElem?_take] at hj
        split at hj
        · rw [Array.getElem?_toList] at hj
          simp [World.cell?, hh, hj]
        · cases hj) ad m c' news hl hnews (by omega) hm hb hmx
    exact ⟨cap, w', _, cur, e, q1, q2, q3, by rw [q4]; exact Nat.le_refl _, q5, .inl rfl, fun k hk _ => q6.block k hk (by simp), q6.size, q6.os, q6.tape, q6.output⟩
theorem appendA_ok {C w0 h0 ow0 r0 n o c s s'} (hop : o.op = .call c) (hcal : c.callee = .builtin .append) (hd : dstOk n o.dst = true) (e : appendA C.P o c s = some s') : StepOK C w0 h0 ow0 r0 n o s s' := by
  intro a w h ow ρ r K Q hK
  obtain ⟨callee, args, types⟩ := c
  dsimp only at hcal; subst hcal
  unfold appendA at e
  split at e
  · rename_i x y t t' d ha ht' hdst
    dsimp only at ha ht'
    obtain rfl : args = #[x, y] := by rw [← Array.toArray_toList (xs := args), ha]
    obtain rfl : types = #[t, t'] := by rw [← Array.toArray_toList (xs := types), ht']
    split at e
    · rename_i el hts
      split at e
      · rename_i z by_ zv hz hby hzv
        split at e
        · rename_i hc0
          obtain ⟨rfl, h0z, hzz⟩ := hc0
          have hu := tslice_spec hts
          obtain ⟨i, hi1, hi2⟩ := Option.map_eq_some_iff.1 hz
          obtain ⟨i', hi1', hi3⟩ := Option.map_eq_some_iff.1 hby
          obtain ⟨i'', hi1'', hi4⟩ := Option.bind_eq_some_iff.1 hzv
          rw [hi1] at hi1' hi1''
          injection hi1' with q; subst q
          injection hi1'' with q; subst q
          have go : ∀ v w', (Builtin.append_ #[t, t] o.type #[a.eval x, a.eval y]).run C.P w = .ok v w' → K (a.put (some d) v) w' → o.wp C.P a w K Q := by
            intro v w' q1 q2
            unfold Oper.wp
            have hrun : (execOp a.eval o).run C.P w = .ok (.value v) w' := by simp [execOp, hop, resolve, invoke, builtin, q1]
            rw [hrun]
            show K (a.put o.dst v) w'
            rw [hdst]; exact q2
          have hdd : d < n := by rw [hdst] at hd; simpa [dstOk] using hd
          -- a new block, of what is appended alone
          have fresh : ∀ (own? : Option Tmp) (ab : Option Addr) (c0 : Nat) (src : List DV) (m : Nat), a.eval x = .slice ab 0 c0 → (ab = none → c0 = 0) → c0 < m → srcC z s y = some (src, m) → 0 < m → m * by_ ≤ 140737488355328 → m ≤ maxLen →
              Good C w0 h0 ow0 r0 n ({ ((s.put own? .un).put (some d) (.arr s.hp.length 0 z m)) with hp := s.hp ++ [src] }) K → o.wp C.P a w K Q := by
            intro own? ab c0 src m hvx hab hcm hsrc h0m hb hmx hK
            obtain ⟨b2, c2, vs, hvy, hvl, hbn, hcell, hrep, hone⟩ := srcC_ok r hsrc
            obtain ⟨ad, rfl⟩ : ∃ ad, b2 = some ad := by
              cases b2 with
              | none => have := hbn rfl; omega
              | some ad => exact ⟨ad, rfl⟩
            obtain ⟨cap, w', cur, q1, q2, q3, q4, q5, q6, q7⟩ := append_new (P := C.P) hu hi1 hi2 hi3 hi4 hzz (w := w) o.type ab 0 c0 [] (by simp) (fun q => ⟨rfl, hab q⟩) (fun _ _ j u hj => by simp at hj) ad m c2 vs hvl (hcell ad rfl h0m) (by omega) h0m (by simpa using hb) (by omega)
            have hsl : src.length = vs.length := (hrep (fun _ _ => False) 0).length.symm
            refine go _ _ (by rw [hvx, hvy]; exact q1) (hK _ _ _ _ _ (r.arrived own? none d hdd w.heap.size (cs := cur) (T := el) (.inl (Nat.le_refl _)) (fun b hb _ => q6.block b hb (by simp)) q6.size (Array.getElem?_eq_some_iff.1 q3).1 q6.os q6.tape q6.output (fun id q => by cases q)
              (fun cs0 T0 f0 q => by have := (Array.getElem?_eq_some_iff.1 q).1; omega) q3 (by rw [q4, hsl, hvl]; exact Nat.mul_le_mul_right _ (by omega)) (fun O k => ?_) (r.hr.hz _ (Nat.le_refl _)) (.inr ⟨cap, by omega, by simp, by omega⟩)))
            have : src.length = (0 + m) * z := by rw [hsl, hvl]; simp
            rw [this, q5, List.nil_append]; exact hrep O k
          -- behind what a block holds
          have behind : ∀ (own? : Option Tmp) (old? : Option Nat) (b k c0 : Nat) (T : TypeId) (cs : Array Value) (box src : List DV) (m : Nat), a.eval x = .slice (some ⟨b, 0, none⟩) k c0 → w.heap[b]? = some (.cells cs T (0, 0)) → k ≤ c0 → c0 * z ≤ cs.size → srcC z s y = some (src, m) → 0 < m →
              (k + m) * by_ ≤ 140737488355328 → k + m ≤ maxLen → h b = 0 → ((∃ ts, own? = some ts ∧ ow b = some (.tmp [ts])) ∨ ∃ id, old? = some id ∧ ow b = some (.box id)) → (∀ id, old? = some id → id < s.hp.length) → box.length = k * z → (∀ O q, RepDs w h ρ box O q (cs.toList.take (k * z))) →
              Good C w0 h0 ow0 r0 n ({ ((s.put own? .un).put (some d) (.arr s.hp.length 0 z (k + m))) with hp := killB s.hp old? ++ [box ++ src] }) K → o.wp C.P a w K Q := by
            intro own? old? b k c0 T cs box src m hvx hh hkc hcs hsrc h0m hb hmx hmark hwho hold hbox hbrep hK
            obtain ⟨b2, c2, vs, hvy, hvl, hbn, hcell, hrep, hone⟩ := srcC_ok r hsrc
            obtain ⟨ad, rfl⟩ : ∃ ad, b2 = some ad := by
              cases b2 with
              | none => have := hbn rfl; omega
              | some ad => exact ⟨ad, rfl⟩
            obtain ⟨cap, w', g, cur, T', q1, q2, q3, q4, q5, q6, q7, q8, q9, q10, q11⟩ := append_any (P := C.P) hu hi1 hi2 hi3 hi4 hzz (w := w) o.type b k c0 T cs hh hkc hcs ad m c2 vs hvl (hcell ad rfl h0m) hone h0m hb hmx
            have hsl : src.length = vs.length := (hrep (fun _ _ => False) 0).length.symm
            have hle : (k + m) * z ≤ cap * z := Nat.mul_le_mul_right _ q2
            have hbl : (box ++ src).length = (k + m) * z := by rw [List.length_append, hbox, hsl, hvl, Nat.add_mul]
            have hmg : h g = 0 := by
              rcases q6 with e | ⟨e, _⟩
              · rw [e]; exact r.hr.hz _ (Nat.le_refl _)
              · rw [e]; exact hmark
            refine go _ _ (by rw [hvx, hvy]; exact q1) (hK _ _ _ _ _ (r.arrived own? old? d hdd g (cs := cur) (T := T') ?_ q7 q8 (Array.getElem?_eq_some_iff.1 q3).1 q9 q10 q11 hold
              (fun cs0 T0 f0 q => ?_) q3 (by rw [hbl]; omega) (fun O q => ?_) hmg (.inr ⟨cap, q2, rfl, q4⟩)))
            · rcases q6 with e | ⟨e, _⟩
              · exact .inl (by omega)
              · rw [e]; exact .inr hwho
            · rcases q6 with e | ⟨e, e1, e2⟩
              · have := (Array.getElem?_eq_some_iff.1 q).1; omega
              · rw [e, hh] at q; injection q with q; injection q with q q' _; rw [← q, ← q', e1]; exact ⟨e2.symm, rfl⟩
            · rw [hbl, q5]
              exact RepDs.append (hbrep O q) (hrep O _)
          unfold appendB at e
          split at e
          · -- an empty one of the call's own
            rename_i e' z' src m hx hsrc
            split at e
            · rename_i ts
              split at e
              · rename_i hc
                obtain ⟨rfl, rfl, h0m, hb, hmx⟩ := hc
                injection e with e; subst e
                have hx' := evalD_rep r hx
                simp only [RepD] at hx'
                obtain ⟨ho, hg⟩ := own_vals hx'
                rcases ho.2 with ⟨hv, _⟩ | ⟨g, cap, cur, hv, _, hh, hnc, hcm, hcs, htake⟩
                · exact fresh (some ts) none 0 src m hv (fun _ => rfl) h0m hsrc h0m hb hmx hK
                · have hgb := hg g (by rw [hv]; rfl)
                  have := behind (some ts) none g 0 cap e' cur [] src m hv hh hnc (by omega) hsrc h0m (by simpa using hb) (by omega) hgb.1 (.inl ⟨ts, rfl, hgb.2⟩) (fun id q => by cases q) (by simp) (fun O q => by simp [RepDs])
                  simp only [Nat.zero_add, killB, List.nil_append] at this
                  exact this hK
              · cases e
            · cases e
          · -- the same
            rename_i e' z' src m hx hsrc
            split at e
            · rename_i ts
              split at e
              · rename_i hc
                obtain ⟨rfl, rfl, h0m, hb, hmx⟩ := hc
                injection e with e; subst e
                have hx' := evalD_rep r hx
                simp only [RepD] at hx'
                obtain ⟨ho, hg⟩ := own_vals hx'
                rcases ho.2 with ⟨hv, _⟩ | ⟨g, cap, cur, hv, _, hh, hnc, hcm, hcs, htake⟩
                · exact fresh (some ts) none 0 src m hv (fun _ => rfl) h0m hsrc h0m hb hmx hK
                · have hgb := hg g (by rw [hv]; rfl)
                  have := behind (some ts) none g 0 cap e' cur [] src m hv hh hnc (by omega) hsrc h0m (by simpa using hb) (by omega) hgb.1 (.inl ⟨ts, rfl, hgb.2⟩) (fun id q => by cases q) (by simp) (fun O q => by simp [RepDs])
                  simp only [Nat.zero_add, killB, List.nil_append] at this
                  exact this hK
              · cases e
            · cases e
          · -- a box's row
            rename_i id off z' k src m hx hsrc
            split at e
            · rename_i box hb
              split at e
              · rename_i hc
                obtain ⟨rfl, rfl, h0k, h0m, hbl, hne, hown, hown2, hbd, hmx⟩ := hc
                injection e with e; subst e
                have hx' := evalD_rep r hx
                simp only [RepD] at hx'
                obtain ⟨b, hρ, ⟨q, _⟩ | ⟨cap, cs0, T0, f0, q1, q2, q3, q4⟩⟩ := hx'
                · omega
                obtain ⟨p1, p2, cs, T, hh, hl0, hrr⟩ := r.hr.box id box b hb hρ hne
                rw [hh] at q3; injection q3 with q3; injection q3 with q3 _ _; subst q3
                refine behind none (some id) b k cap T cs box src m q2 hh q1 (by omega) hsrc h0m hbd hmx p2 (.inr ⟨id, rfl, p1⟩) (fun id' q => by injection q with q; subst q; exact (List.getElem?_eq_some_iff.1 hb).1) hbl (fun O q => ?_) hK
                rw [← hbl]; exact hrr.free_any hown O q
              · cases e
            · cases e
          · -- what has no room
            rename_i z' xs src m hx hsrc
            have hx' := evalD_rep r hx
            simp only [RepD] at hx'
            obtain ⟨hxr, ax, hvx⟩ := hx'
            split at e
            · rename_i hc
              obtain ⟨rfl, rfl, h0m, hb, hmx, _⟩ := hc
              injection e with e; subst e
              exact fresh none ax 0 src m (by simpa using hvx) (fun _ => rfl) h0m hsrc h0m hb hmx hK
            · split at e
              · rename_i ys hmore
                split at e
                · rename_i hc
                  obtain ⟨rfl, hb, hmx⟩ := hc
                  injection e with e; subst e
                  have hy : Rep w h (.sl z' ys) (a.eval y) := by
                    unfold appMore at hmore
                    split at hmore
                    · rename_i hy
                      injection hmore with hmore; subst hmore
                      have := evalD_rep r hy
                      simp only [RepD] at this
                      simp only [Rep]; exact .inl ⟨trivial, none, 0, this, fun _ => rfl⟩
                    · rename_i d' _ hy
                      split at hmore
                      · rename_i z2 ys' he
                        split at hmore
                        · rename_i hzz'
                          injection hmore with hmore; subst hmore; subst hzz'
                          exact elems_rep he (evalD_rep r hy)
                        · cases hmore
                      · cases hmore
                    · cases hmore
                  have hy0 := hy
                  simp only [Rep] at hy
                  have nothing : ys = [] → o.wp C.P a w K Q := by
                    intro q
                    subst q
                    obtain ⟨ay, cy, hvy, _, _⟩ := rep_slice hy0
                    refine go _ _ (by rw [hvx, hvy]; exact run_append_none hu hz o.type ax _ _ (Nat.le_refl _) ay cy w) (hK _ _ _ _ _ (r.put (some d) (by rw [← hdst]; exact hd) fun O => ?_))
                    simp only [RepD, List.append_nil]; rw [← hvx]; exact hxr
                  rcases hy with ⟨q, _⟩ | ⟨gy, offy, capy, hvy, hcy, hhy, hzy, hry⟩
                  · exact nothing q
                  by_cases hm0 : ys = []
                  · exact nothing hm0
                  have h0m : 0 < ys.length := by
                    rcases ys with _ | _
                    · exact absurd rfl hm0
                    · simp
                  obtain ⟨news, hnl, hnews, hnr, hn1⟩ := rows_vals hzy hry
                  -- what is there
                  have holds : ∃ olds : List Value, olds.length = xs.length * z' ∧ (ax = none → xs.length = 0 ∧ xs.length = 0) ∧ (∀ ad, ax = some ad → ∀ j u, olds[j]? = some u → w.cell? (ad.add j) = some u) ∧ RepRows w h xs (fun j => olds[j]?) ∧ (∀ u ∈ olds, u.oneCell' = true) ∧ (∀ q ∈ xs, q.length = z') := by
                    simp only [Rep] at hxr
                    rcases hxr with ⟨rfl, _⟩ | ⟨g, off, cap, hv, hcap, hh, hzx, rr⟩
                    · exact ⟨[], by simp, fun _ => ⟨rfl, rfl⟩, (fun _ _ j u hj => by simp at hj), by simp only [RepRows], by simp, by simp⟩
                    · obtain ⟨olds, k1, k2, k3, k4⟩ := rows_vals hzx rr
                      rw [hvx] at hv; injection hv with e1 e2 e3; subst e1
                      exact ⟨olds, k1, (fun q => by cases q), fun ad had j u hj => by injection had with had; subst had; rw [addr_add]; exact k2 j u hj, k3, k4, hzx⟩
                  obtain ⟨olds, k1, k2, k3, k4, k5, k6⟩ := holds
                  obtain ⟨cap, w', cur, q1, q2, q3, q4, q5, q6, q7⟩ := append_new (P := C.P) hu hi1 hi2 hi3 hi4 hzz (w := w) o.type ax xs.length xs.length olds k1 k2 k3 ⟨gy, offy, none⟩ ys.length capy news hnl
                    (fun j u hj => by rw [addr_add]; exact hnews j u hj) (by omega) h0m hb hmx
                  refine go _ _ (by rw [hvx, hvy]; exact q1) ?_
                  have happ := r.appended none d hdd (v := .slice none 0 0) (v' := .slice (some ⟨w.heap.size, 0, none⟩) (xs.length + ys.length) cap) (w' := w') (e := el) (z := z') (xs' := xs ++ ys) (vals' := olds ++ news)
                    (fun g hg => by simp [Value.ownBlock] at hg) q6 (fun b j hj => ?_) (fun b cs T f q => ⟨cs, f, by rw [q6.block b (Array.getElem?_eq_some_iff.1 q).1 (by simp)]; exact q, rfl⟩) h0z ?_ (fun q hq => ?_) (RepRows.append (by rw [rowsLen xs _ k6, k1]) k4 hnr) (fun u hu => ?_) (.inr (.inr rfl))
                    (fun g hg => by
                      have : w.heap.size = g := by simpa [Value.ownBlock] using hg
                      rw [r.hr.hz g (by omega)]; exact Nat.zero_le _)
                  · have hK' := hK
                    refine hK _ _ _ _ _ (happ.weak _ rfl (fun i => ?_) (fun i hi => ?_))
                    · simp only [St.put]
                      split
                      · exact .fr _ _ _
                      · exact .refl _
                    · simp only [St.put]
                      rw [if_neg (fun e => by rw [e] at hi; exact absurd hi (Nat.not_le_of_gt hdd))]
                      exact r.dom i hi
                  · have hlt : b < w.heap.size := by
                      rcases Nat.lt_or_ge b w.heap.size with q | q
                      · exact q
                      · rw [r.hr.hz b q] at hj; omega
                    simp only [World.cell?, q6.block b hlt (by simp)]
                  · refine ⟨by simp [k1, hnl, Nat.add_mul], .inr ⟨w.heap.size, cap, cur, by simp, by omega, q3, by simpa using q2, ?_, q4, ?_⟩⟩
                    · exact q7
                    · have : (olds ++ news).length = (xs.length + ys.length) * z' := by simp [k1, hnl, Nat.add_mul]
                      simpa using q5
                  · rcases List.mem_append.1 hq with q | q
                    · exact k6 _ q
                    · exact hzy _ q
                  · rcases List.mem_append.1 hu with q | q
                    · exact k5 u q
                    · exact hn1 u q
                · cases e
              · cases e
          · -- nil
            rename_i src m hx hsrc
            have hx' := evalD_rep r hx
            simp only [RepD] at hx'
            split at e
            · rename_i hc
              obtain ⟨h0m, hb, hmx⟩ := hc
              injection e with e; subst e
              exact fresh none none 0 src m hx' (fun _ => rfl) h0m hsrc h0m hb hmx hK
            · cases e
          · cases e
        · cases e
      · cases e
    · cases e
  · cases e
end Go.Proofs.Dm
