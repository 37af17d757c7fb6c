/- The D-machine, part X: copy, append where arrays are boxes. -/
import Derived.Test.YtcacihiiilemgaaDmW
set_option linter.unusedVariables false
set_option linter.unusedSimpArgs false
namespace Go.Proofs.Dm
open Go Go.RowKit

/-- What is copied or appended: its cells, how many elements. -/
def srcC (z : Nat) (s : St) (y : Operand) : Option (List DV × Nat) :=
  match evalD s y with
  | some (.arr id off z' n) => match s.hp[id]? with
    | some box => if z' = z ∧ 0 < n ∧ off + n * z ≤ box.length ∧ box ≠ [] ∧ hasOwns ((box.drop off).take (n * z)) = false ∧ solids ((box.drop off).take (n * z)) = true then some ((box.drop off).take (n * z), n) else none
    | none => none
  | some .nil => some ([], 0)
  | some d => match elems d with
    | some (z', ys) => if z' = z then some (flatP ys, ys.length) else none
    | none => none
  | none => none
theorem srcC_ok {C w0 h0 ow0 r0 n s a w h ow ρ} (r : Rel C w0 h0 ow0 r0 n s a w h ow ρ) {z : Nat} {y : Operand} {src : List DV} {m : Nat} (e : srcC z s y = some (src, m)) :
    ∃ b c vs, a.eval y = .slice b m c ∧ vs.length = m * z ∧ (b = none → m = 0) ∧ (∀ ad, b = some ad → 0 < m → ∀ j u, vs[j]? = some u → w.cell? (ad.add j) = some u) ∧
      (∀ O k, RepDs w h ρ src O k vs) ∧ ∀ u ∈ vs, u.oneCell' = true := by
  unfold srcC at e
  split at e
  · rename_i id off z' n' hy
    split at e
    · rename_i box hb
      split at e
      · rename_i hc
        obtain ⟨rfl, h0, hoff, hne, hown, hsol⟩ := hc
        injection e with e; injection e with e1 e2; subst e1; subst e2
        have hy' := evalD_rep r hy
        simp only [RepD] at hy'
        obtain ⟨b, hρ, ⟨q, _⟩ | ⟨cap, cs0, T0, f0, q1, q2, q3, q4⟩⟩ := hy'
        · omega
        obtain ⟨p1, p2, cs, T, hh, hl0, hrr⟩ := r.hr.box id box b hb hρ hne
        have hdt : ((cs.toList.take box.length).drop off).take (n' * z') = (cs.toList.drop off).take (n' * z') := by
          rw [List.drop_take, List.take_take]; congr 1; omega
        have hsub := repDs_part hrr off (n' * z')
        rw [hdt] at hsub
        have hany : ∀ O k, RepDs w h ρ ((box.drop off).take (n' * z')) O k ((cs.toList.drop off).take (n' * z')) := fun O k => hsub.free_any hown O k
        refine ⟨_, cap, (cs.toList.drop off).take (n' * z'), q2, by simp; omega, (fun q => by cases q), fun ad had _ j u hj => ?_, hany, fun u hu => ?_⟩
        · injection had with had; subst had
          rw [addr_add]
          rw [List.getElem?_take] at hj
          split at hj
          · rw [List.getElem?_drop, Array.getElem?_toList] at hj
            simp [World.cell?, hh, hj]
          · cases hj
        · obtain ⟨i, hi⟩ := List.mem_iff_getElem?.1 hu
          have hil : i < ((box.drop off).take (n' * z')).length := by
            have := (hany (fun _ _ => False) 0).length
            rw [← this]; exact (List.getElem?_eq_some_iff.1 hi).1
          obtain ⟨v', k1, k2⟩ := (hany (fun _ _ => False) 0).get i _ (List.getElem?_eq_getElem hil)
          rw [k1] at hi; injection hi with hi; subst hi
          exact solid_one (solids_get hsol i _ (List.getElem?_eq_getElem hil)) k2
      · cases e
    · cases e
  · rename_i hy
    injection e with e; injection e with e1 e2; subst e1; subst e2
    have hy' := evalD_rep r hy
    simp only [RepD] at hy'
    exact ⟨none, 0, [], hy', by simp, fun _ => rfl, (fun ad had => by cases had), fun O k => by simp only [RepDs], by simp⟩
  · rename_i d _ _ hy
    split at e
    · rename_i z' ys he
      split at e
      · rename_i hz
        subst hz
        injection e with e; injection e with e1 e2; subst e1; subst e2
        have hr := elems_rep he (evalD_rep r hy)
        simp only [Rep] at hr
        rcases hr with ⟨rfl, b, c, hv, hbc⟩ | ⟨g, off, cap, hv, hcap, hh, hzz, rr⟩
        · exact ⟨b, c, [], hv, by simp, fun _ => rfl, fun ad had h0 => by simp at h0, fun O k => by simp [flatP, RepDs], by simp⟩
        · obtain ⟨vs, k1, k2, k3, k4⟩ := rows_vals hzz rr
          exact ⟨_, cap, vs, hv, k1, (fun q => by cases q), fun ad had _ j u hj => by injection had with had; subst had; rw [addr_add]; exact k2 j u hj,
            fun O k => flatP_rep (by rw [rowsLen ys _ hzz, k1]) k3 O k, k4⟩
      · cases e
    · cases e
  · cases e

/-! ### copy -/
def copyD (P : Program) (o : Oper) (c : Call) (s : St) : Option St :=
  match c.args.toList, c.argTypes.toList with
  | [x, y], [t, t'] => match tslice P t with
    | some e => match tsz P e, evalD s x with
      | some z, some (.arr id off z' n) => match s.hp[id]?, srcC z s y with
        | some box, some (src, m) => if min m n = 0 then some (s.put o.dst (.p (.int .i64 0))) else if z' = z ∧ 0 < z ∧ 0 < min m n ∧ off + n * z ≤ box.length ∧ box ≠ [] ∧ hasOwns src = false then
            some ({ s with hp := s.hp.set id (box.take off ++ src.take (min m n * z) ++ box.drop (off + min m n * z)) }.put o.dst (.p (.int .i64 (min m n : Nat)))) else none
        | _, _ => none
      | _, _ => none
    | none => none
  | _, _ => none
theorem copyD_ok {C w0 h0 ow0 r0 n o c s s'} (hop : o.op = .call c) (hcal : c.callee = .builtin .copy) (hd : dstOk n o.dst = true) (e : copyD C.P o c s = some s') : StepOK C w0 h0 ow0 r0 n o s s' := by
  intro a w h ow ρ r K Q hK
  obtain ⟨callee, args, types⟩ := c
  dsimp only at hcal; subst hcal
  unfold copyD at e
  split at e
  · rename_i x y t t' ha ht'
    dsimp only at ha ht'
    obtain rfl : args = #[x, y] := by rw [← Array.toArray_toList (xs := args), ha]
    obtain rfl : types = #[t, t'] := by rw [← Array.toArray_toList (xs := types), ht']
    split at e
    · rename_i el hts
      split at e
      · rename_i z id off z' k hz hx
        split at e
        · rename_i box src m hb hsrc
          split at e
          · rename_i hz0
            injection e with e; subst e
            obtain ⟨b2, c2, vs, hvy, hvl, hbn, hcell, hrep, hone⟩ := srcC_ok r hsrc
            have hx' := evalD_rep r hx
            simp only [RepD] at hx'
            have hload : ∀ (q : Addr), (loadCells q 0).run C.P w = .ok #[] w := fun q => by simpa using run_loadCells_list (P := C.P) w q [] (by simp)
            have hmin : Nat.min m k = 0 := hz0
            have hu := tslice_spec hts
            have main : ∀ (ax : Option Addr) (c : Nat), a.eval x = .slice ax k c → o.wp C.P a w K Q := by
              intro ax c hvx
              have hrun : (execOp a.eval o).run C.P w = .ok (.value (.int .i64 0)) w := by
                simp only [execOp, hop, resolve, invoke, Sem.run_bind]
                cases b2 <;> cases ax <;> simp [builtin, Builtin.copy_, hvx, hvy, run_underlying hu, Builtin.lenOf, Builtin.firstCells, tsz_spec hz, hload, hmin, goInt, storeCells]
              unfold Oper.wp
              rw [hrun]
              exact hK _ _ _ _ _ (r.put o.dst hd fun O => by simp only [RepD, Rep])
            obtain ⟨b, hρ, ⟨rfl, ax, c, hv, _⟩ | ⟨cap, cs0, T0, f0, q1, q2, q3, q4⟩⟩ := hx'
            · exact main ax c hv
            · exact main _ cap q2
          split at e
          · rename_i hc
            obtain ⟨rfl, h0z, hmin, hoff, hne, hown⟩ := hc
            injection e with e; subst e
            obtain ⟨b2, c2, vs, hvy, hvl, hbn, hcell, hrep, hone⟩ := srcC_ok r hsrc
            have hx' := evalD_rep r hx
            simp only [RepD] at hx'
            obtain ⟨b, hρ, ⟨q, _⟩ | ⟨cap, cs0, T0, f0, q1, q2, q3, q4⟩⟩ := hx'
            · omega
            obtain ⟨p1, p2, cs, T, hh, hl0, hrr⟩ := r.hr.box id box b hb hρ hne
            obtain ⟨ad, rfl⟩ : ∃ ad, b2 = some ad := by
              cases b2 with
              | none => have := hbn rfl; omega
              | some ad => exact ⟨ad, rfl⟩
            have hmk : min m k * z' ≤ k * z' := Nat.mul_le_mul_right _ (Nat.min_le_right _ _)
            have hmm : min m k * z' ≤ m * z' := Nat.mul_le_mul_right _ (Nat.min_le_left _ _)
            have hload := run_loadCells_list (P := C.P) w ad (vs.take (min m k * z')) (fun j u hj => hcell ad rfl (by omega) j u (by
              rw [List.getElem?_take] at hj
              split at hj
              · exact hj
              · cases hj))
            have hvtl : (vs.take (min m k * z')).length = min m k * z' := by simp; omega
            rw [hvtl] at hload
            have hst := run_storeCells_at C.P b off T (vs.take (min m k * z')) 0 cs w hh (by rw [hvtl]; omega) (fun u hu => hone u (List.mem_of_mem_take hu))
            have hrun : (execOp a.eval o).run C.P w = .ok (.value (.int .i64 (min m k : Nat))) (w.setRow b (cs.toList.take off ++ vs.take (min m k * z') ++ cs.toList.drop (off + min m k * z')).toArray) := by
              simp only [Nat.add_zero, hvtl] at hst
              have hu := tslice_spec hts
              simp only [execOp, hop, resolve, invoke, Sem.run_bind]
              simp [builtin, Builtin.copy_, q2, hvy, run_underlying hu, Builtin.lenOf, Builtin.firstCells, tsz_spec hz, hload, hst, goInt]
            unfold Oper.wp
            rw [hrun]
            show K (a.put o.dst _) _
            have hst2 := r.stored (z := min m k * z') (ds := src.take (min m k * z')) (vs := vs.take (min m k * z')) hb hρ hh (by
              have := (hrep (fun _ _ => False) 0).length
              simp; omega) (by omega) hne (fun x => x) (fun i => rfl) (fun p => rfl) (RepDs.of_get (by
              have := (hrep (fun _ _ => False) 0).length
              simp; omega) fun i d u hd hu => ?_) { s with hp := s.hp.set id (box.take off ++ src.take (min m k * z') ++ box.drop (off + min m k * z')) } rfl r.dom (fun i => .inr ⟨rfl, fun p => rfl⟩)
            · have hmap : (fun g => (ow g).map (fun x => x)) = ow := by funext g; cases ow g <;> rfl
              exact hK _ _ _ _ _ (hst2.put o.dst hd fun O => by simp only [RepD, Rep])
            · rw [List.getElem?_take] at hd hu
              split at hd
              · rename_i hi
                rw [if_pos hi] at hu
                obtain ⟨v', k1, k2⟩ := (hrep (fun _ _ => False) 0).get i d hd
                rw [k1] at hu; injection hu with hu; subst hu
                exact RepD.free _ _ _ _ (hasOwns_get hown i d hd) k2
              · cases hd
          · cases e
        · cases e
      · cases e
    · cases e
  · cases e

/-! ### append -/
theorem append_new {P : Program} {t e : TypeId} {z by_ : Nat} {zv : Value} {i : TypeInfo} (hu : P.underlying t = some (.slice e)) (hi : P.info? e = some i) (hi2 : i.size = z) (hi3 : i.bytes = by_) (hi4 : i.zero = some zv) (hzz : zv.cells.size = z)
    {w : World} (ty : TypeId) (a : Option Addr) (n c : Nat) (olds : List Value) (hlo : olds.length = n * z) (ha : a = none → n = 0 ∧ c = 0)
    (holds : ∀ ad, a = some ad → ∀ j u, olds[j]? = some u → w.cell? (ad.add j) = some u) (ad : Addr) (m c' : Nat) (news : List Value) (hl : news.length = m * z) (hnews : ∀ j u, news[j]? = some u → w.cell? (ad.add j) = some u)
    (hg : c < n + m) (hm : 0 < m) (hb : (n + m) * by_ ≤ 140737488355328) (hmx : n + m ≤ maxLen) :
    ∃ cap w' cur, (Builtin.append_ #[t, t] ty #[.slice a n c, .slice (some ad) m c']).run P w = .ok (.slice (some ⟨w.heap.size, 0, none⟩) (n + m) cap) w' ∧ n + m ≤ cap ∧
      w'.heap[w.heap.size]? = some (.cells cur e (0, 0)) ∧ cur.size = cap * z ∧ cur.toList.take ((n + m) * z) = olds ++ news ∧ w.grownBy w' none ∧ cap ≤ maxLen := by
  subst hi2; subst hi3
  have hsmall : n + m ≤ 9223372036854775807 := by simp only [maxLen] at hmx; omega
  have hlen : (olds ++ news).length = (n + m) * i.size := by rw [List.length_append, hlo, hl, Nat.add_mul]
  have fin : ∀ (old : Nat), old < n + m →
      n + m ≤ grownCap w (n + m) old e ∧ (olds.toArray ++ news.toArray ++ Builtin.zeroCells zv.cells (grownCap w (n + m) old e - (n + m))).size = grownCap w (n + m) old e * i.size ∧
      (olds.toArray ++ news.toArray ++ Builtin.zeroCells zv.cells (grownCap w (n + m) old e - (n + m))).toList.take ((n + m) * i.size) = olds ++ news ∧
      w.grownBy (w.drew.alloc (.cells (olds.toArray ++ news.toArray ++ Builtin.zeroCells zv.cells (grownCap w (n + m) old e - (n + m))) e)) none := by
    intro old ho
    have hge := grownCap_ge w (n + m) old e
    refine ⟨hge, ?_, ?_, ⟨rfl, rfl, rfl, by simp, fun k hk _ => heap_alloc_old w.drew _ hk⟩⟩
    · simp only [Array.size_append, List.size_toArray, size_zeroCells, hzz, hlo, hl, ← Nat.add_mul]
      congr 1
      omega
    · simp only [Array.toList_append, List.append_assoc]
      rw [← List.append_assoc, ← hlen]
      exact List.take_left
  cases a with
  | none =>
    obtain ⟨rfl, rfl⟩ := ha rfl
    have hx : olds = [] := List.eq_nil_of_length_eq_zero (by simpa using hlo)
    subst hx
    have hr := run_append_nil (P := P) w t ty e i zv hu hi hi4 ad m c' news hl hnews (by omega) (by omega) (by simp only [Nat.zero_add] at hb; omega)
    obtain ⟨f1, f2, f3, f4⟩ := fin 0 (by omega)
    simp only [Nat.zero_add, List.nil_append, Array.empty_append] at f1 f2 f3 f4 ⊢
    exact ⟨_, _, _, hr, f1, heap_alloc_new w.drew _, f2, f3, f4, by simpa using grownCap_le_maxLen w (0 + m) 0 e hmx⟩
  | some b =>
    have hr := run_append_grow (P := P) w t ty e i zv hu hi hi4 b n c olds hlo (holds b rfl) ad m c' news hl hnews hg (by omega) (growslice_fits hg hb)
    obtain ⟨f1, f2, f3, f4⟩ := fin c hg
    exact ⟨_, _, _, hr, f1, heap_alloc_new w.drew _, f2, f3, f4, grownCap_le_maxLen w (n + m) c e hmx⟩

theorem append_fit {P : Program} {t e : TypeId} {z : Nat} (hu : P.underlying t = some (.slice e)) (hz : tsz P e = some z) (ty : TypeId) (w : World) (b n c : Nat) (T : TypeId) (cs : Array Value) (hh : w.heap[b]? = some (.cells cs T (0, 0)))
    (ad : Addr) (m c' : Nat) (news : List Value) (hl : news.length = m * z) (hnews : ∀ j u, news[j]? = some u → w.cell? (ad.add j) = some u) (h1 : ∀ u ∈ news, u.oneCell' = true) (hroom : n + m ≤ c) (hfit : c * z ≤ cs.size) :
    (Builtin.append_ #[t, t] ty #[.slice (some ⟨b, 0, none⟩) n c, .slice (some ad) m c']).run P w =
      .ok (.slice (some ⟨b, 0, none⟩) (n + m) c) (w.setRow b (cs.toList.take (n * z) ++ news ++ cs.toList.drop (n * z + m * z)).toArray) := by
  have hf : (Builtin.firstCells z m (.slice (some ad) m c')).run P w = .ok news.toArray w := run_firstCells_some (P := P) w z m ad m c' news hl hnews
  have hle : (n + m) * z ≤ c * z := Nat.mul_le_mul_right _ hroom
  rw [Nat.add_mul] at hle
  have hst := run_storeCells_at P b (n * z) T news 0 cs w hh (by rw [hl]; omega) h1
  simp only [Nat.add_zero, hl] at hst
  have hadd : (⟨b, 0, none⟩ : Addr).add (n * z) = ⟨b, n * z, none⟩ := by rw [addr_add]; simp
  simp [Builtin.append_, run_underlying hu, tsz_spec hz, Builtin.lenOf, hroom, hf, hadd, hst]

def appendB (e z by_ : Nat) (d : Tmp) (x y : Operand) (s : St) : Option St :=
  match evalD s x, srcC z s y with
  | some (.mt e' z'), some (src, m) => match x with
    | .tmp ts => if e' = e ∧ z' = z ∧ 0 < m ∧ m * by_ ≤ 140737488355328 ∧ m ≤ maxLen then some { ((s.put (some ts) .un).put (some d) (.arr s.hp.length 0 z m)) with hp := s.hp ++ [src] } else none
    | _ => none
  | some (.own e' z' []), some (src, m) => match x with
    | .tmp ts => if e' = e ∧ z' = z ∧ 0 < m ∧ m * by_ ≤ 140737488355328 ∧ m ≤ maxLen then some { ((s.put (some ts) .un).put (some d) (.arr s.hp.length 0 z m)) with hp := s.hp ++ [src] } else none
    | _ => none
  | some (.arr id off z' n), some (src, m) => match s.hp[id]? with
    | some box => if off = 0 ∧ z' = z ∧ 0 < n ∧ 0 < m ∧ box.length = n * z ∧ box ≠ [] ∧ hasOwns box = false ∧ hasOwns src = false ∧ (n + m) * by_ ≤ 140737488355328 ∧ n + m ≤ maxLen then
        some { s.put (some d) (.arr s.hp.length 0 z (n + m)) with hp := s.hp.set id [] ++ [box ++ src] } else none
    | none => none
  | some (.cp z' xs), some (src, m) => if xs = [] ∧ z' = z ∧ 0 < m ∧ m * by_ ≤ 140737488355328 ∧ m ≤ maxLen ∧ (appMore z s y).isNone = true then
      some { s.put (some d) (.arr s.hp.length 0 z m) with hp := s.hp ++ [src] } else
      (match appMore z s y with
      | some ys => if z' = z ∧ (xs.length + ys.length) * by_ ≤ 140737488355328 ∧ xs.length + ys.length ≤ maxLen then some (s.put (some d) (.p (.sl z (xs ++ ys)))) else none
      | none => none)
  | _, _ => none
def appendA (P : Program) (o : Oper) (c : Call) (s : St) : Option St :=
  match c.args.toList, c.argTypes.toList, o.dst with
  | [x, y], [t, t'], some d => match tslice P t with
    | some e => match tsz P e, tbytes P e, tzero P e with
      | some z, some by_, some zv => if t = t' ∧ 0 < z ∧ zv.cells.size = z then appendB e z by_ d x y s else none
      | _, _, _ => none
    | none => none
  | _, _, _ => none
end Go.Proofs.Dm
