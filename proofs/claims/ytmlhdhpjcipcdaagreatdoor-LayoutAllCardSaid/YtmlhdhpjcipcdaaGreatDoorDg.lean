/- Part of the proof: contracts of the functions, walked by the D-machine. No condition. -/
import Derived.Test.YtmlhdhpjcipcdaaGreatDoorDf
import Derived.Deep.LoopGhost
set_option linter.unusedVariables false
set_option linter.unusedSimpArgs false
namespace Go.Proofs.Dm
open Go Go.RowKit
def isTmp (t : Tmp) : Operand → Bool
  | .tmp u => u == t
  | _ => false
theorem argsD_spec {s : St} {all : List Operand} : ∀ {xs : List Operand} {ds : List DV}, argsD s all xs = some ds → ds.length = xs.length ∧
    ∀ (k : Nat) (x : Operand) (d : DV), xs[k]? = some x → ds[k]? = some d → ∃ d0, evalD s x = some d0 ∧
      ((hasOwn d = false ∧ ((d = d0 ∧ hasOwn d0 = false) ∨ d = fz d0)) ∨ (d = d0 ∧ ∃ t, x = .tmp t ∧ hasOwn (s.tm t) = true ∧ (all.filter (isTmp t)).length = 1))
  | [], ds, e => by simp only [argsD, Option.some.injEq] at e; subst e; simp
  | x :: xs, ds, e => by
    simp only [argsD] at e
    split at e
    · rename_i d0 ds' h1 h2
      injection e with e; subst e
      obtain ⟨q1, q2⟩ := argsD_spec h2
      refine ⟨by simp [q1], fun k y d hy hd => ?_⟩
      cases k with
      | succ k => exact q2 k y d (by simpa using hy) (by simpa using hd)
      | zero =>
        simp only [List.getElem?_cons_zero, Option.some.injEq] at hy hd
        subst hy; subst hd
        refine ⟨d0, h1, ?_⟩
        have hfz : hasOwn (fz d0) = false := by
          have : (∀ d : DV, hasOwn (fz d) = false) ∧ (∀ ds : List DV, hasOwns (fzs ds) = false) := by
            refine ⟨fun d => ?_, fun ds => ?_⟩
            · exact fz_noOwn d
            · exact fzs_noOwn ds
          exact this.1 d0
        split
        · rename_i ho
          split
          · rename_i t
            split
            · rename_i hc
              simp only [evalD, Option.some.injEq] at h1
              refine .inr ⟨rfl, t, rfl, by rw [h1]; exact ho, ?_⟩
              rw [← hc]; congr 1
            · exact .inl ⟨hfz, .inr rfl⟩
          · exact .inl ⟨hfz, .inr rfl⟩
        · rename_i ho
          have ho : hasOwn d0 = false := by simpa using ho
          exact .inl ⟨ho, .inl ⟨rfl, ho⟩⟩
    · cases e
where
  fz_noOwn : ∀ d : DV, hasOwn (fz d) = false
    | .own _ _ _ => rfl
    | .agg cs => by simp only [fz, hasOwn]; exact fzs_noOwn cs
    | .tup cs => by simp only [fz, hasOwn]; exact fzs_noOwn cs
    | .fn _ cs => by simp only [fz, hasOwn]; exact fzs_noOwn cs
    | .p _ => rfl
    | .nil => rfl
    | .ref _ _ => rfl
    | .fr _ => rfl
    | .un => rfl
    | .ud => rfl
    | .arr _ _ _ _ => rfl
    | .cp _ _ => rfl
    | .mt _ _ => rfl
    | .bn _ _ _ => rfl
  fzs_noOwn : ∀ ds : List DV, hasOwns (fzs ds) = false
    | [] => rfl
    | d :: ds => by simp only [fzs, hasOwns, fz_noOwn d, fzs_noOwn ds, Bool.or_false]
theorem given_mem {s : St} : ∀ {xs : List Operand} {t : Tmp}, t ∈ given s xs ↔ (.tmp t ∈ xs ∧ hasOwn (s.tm t) = true)
  | [], t => by simp [given]
  | x :: xs, t => by
    cases x with
    | tmp u =>
      simp only [given]
      split
      · rename_i h
        simp only [List.mem_cons, given_mem (xs := xs), Operand.tmp.injEq]
        constructor
        · rintro (e | ⟨e1, e2⟩)
          · subst e; exact ⟨.inl rfl, h⟩
          · exact ⟨.inr e1, e2⟩
        · rintro ⟨e | e, e2⟩
          · exact .inl e
          · exact .inr ⟨e, e2⟩
      · rename_i h
        simp only [given_mem (xs := xs), List.mem_cons, Operand.tmp.injEq]
        constructor
        · rintro ⟨e1, e2⟩; exact ⟨.inr e1, e2⟩
        · rintro ⟨e | e, e2⟩
          · subst e; exact absurd e2 h
          · exact ⟨e, e2⟩
    | const v => simp only [given, given_mem (xs := xs)]; simp
    | global g => simp only [given, given_mem (xs := xs)]; simp
    | func f => simp only [given, given_mem (xs := xs)]; simp
theorem findIdx_unique {α : Type} {p : α → Bool} : ∀ {l : List α} {k : Nat} {x : α}, l[k]? = some x → p x = true → (l.filter p).length = 1 → l.findIdx? p = some k
  | [], k, x, h, _, _ => by simp at h
  | y :: l, 0, x, h, hp, hl => by simp at h; subst h; simp [List.findIdx?_cons, hp]
  | y :: l, k + 1, x, h, hp, hl => by
    simp at h
    have hy : p y = false := by
      rcases hq : p y with _ | _
      · rfl
      · rw [List.filter_cons_of_pos (by simpa using hq)] at hl
        have hm : x ∈ l.filter p := List.mem_filter.2 ⟨List.mem_of_getElem? h, hp⟩
        have : (l.filter p).length = 0 := by simp only [List.length_cons] at hl; omega
        rw [List.eq_nil_of_length_eq_zero this] at hm
        cases hm
    rw [List.filter_cons_of_neg (by simp [hy])] at hl
    simp [List.findIdx?_cons, hy, findIdx_unique h hp hl]
theorem mapRefs_len (f : Nat → Nat) : ∀ (ds : List DV), (mapRefs f ds).length = ds.length
  | [] => rfl
  | d :: ds => by simp [mapRefs, mapRefs_len f ds]
def mapIn (s : St) (args : List Operand) (ids : List Nat) : Pos → Option Pos
  | .tmp (t :: p) => if hasOwn (s.tm t) then (args.findIdx? (isTmp t)).map fun k => .tmp (k :: p) else none
  | .cell (i :: p) => if ids.contains i then some (.cell (idxIn ids i :: p)) else none
  | .box i => if ids.contains i then some (.box (idxIn ids i)) else none
  | _ => none
def mapOut (dst : Option Tmp) (ids : List Nat) (n m : Nat) : Pos → Pos
  | .res p => match dst with
    | some d => .tmp (d :: p)
    | none => .res []
  | .cell (j :: p) => .cell (backId ids n m j :: p)
  | .box j => .box (backId ids n m j)
  | _ => .res []
theorem idx_of_get {ids : List Nat} (hn : ids.Nodup) {j i : Nat} (h : ids[j]? = some i) : idxIn ids i = j := by
  obtain ⟨hj, e⟩ := List.getElem?_eq_some_iff.1 h
  unfold idxIn
  subst e
  exact hn.idxOf_getElem j hj
theorem writeBack_len : ∀ {hp : List (List DV)} {ids : List Nat} {bs : List (List DV)}, ids.length ≤ bs.length → (writeBack hp ids bs).length = hp.length + (bs.length - ids.length)
  | hp, [], bs, h => by cases bs <;> simp [writeBack]
  | hp, i :: is, [], h => by simp at h
  | hp, i :: is, b :: bs, h => by simp only [writeBack]; rw [writeBack_len (by simpa using h)]; simp
theorem writeBack_get : ∀ {hp : List (List DV)} {ids : List Nat} {bs : List (List DV)}, ids.Nodup → (∀ i ∈ ids, i < hp.length) → ids.length ≤ bs.length → ∀ (i : Nat),
    (writeBack hp ids bs)[i]? = if i < hp.length then (if i ∈ ids then bs[idxIn ids i]? else hp[i]?) else bs[ids.length + (i - hp.length)]?
  | hp, [], bs, hn, hl, hb, i => by
    have : writeBack hp [] bs = hp ++ bs := by cases bs <;> rfl
    rw [this]
    by_cases h : i < hp.length
    · rw [if_pos h, List.getElem?_append_left h]; simp
    · rw [if_neg h, List.getElem?_append_right (by omega)]; simp
  | hp, x :: xs, [], hn, hl, hb, i => by simp at hb
  | hp, x :: xs, b :: bs, hn, hl, hb, i => by
    simp only [writeBack]
    obtain ⟨hx, hn'⟩ := List.nodup_cons.1 hn
    rw [writeBack_get hn' (fun j hj => by simpa using hl j (by simp [hj])) (by simpa using hb)]
    simp only [List.length_set]
    by_cases h : i < hp.length
    · rw [if_pos h, if_pos h]
      by_cases hxs : i ∈ xs
      · have hne : i ≠ x := fun e => hx (by rw [← e]; exact hxs)
        rw [if_pos hxs, if_pos (by simp [hxs])]
        unfold idxIn
        have hb : (x == i) = false := by
          rw [beq_eq_false_iff_ne]; exact fun e => hne e.symm
        rw [List.idxOf_cons, hb]
        simp
      · rw [if_neg hxs]
        by_cases hix : i = x
        · subst hix
          rw [if_pos (by simp), List.getElem?_set_self h]
          unfold idxIn
          simp
        · rw [if_neg (by simp [hix, hxs]), List.getElem?_set_ne (fun e => hix e.symm)]
    · rw [if_neg h, if_neg h]
      simp only [List.length_cons]
      have : xs.length + 1 + (i - hp.length) = (xs.length + (i - hp.length)) + 1 := by omega
      rw [this, List.getElem?_cons_succ]
theorem callTo_ok {C w0 h0 ow0 r0 n o} {c : Call} {x s s'} (hop : o.op = .call c) (hcal : c.callee = .value x) (hcall : callTo C n o c x s s') : StepOK C w0 h0 ow0 r0 n o s s' := by
  intro a w h ow ρ r K Q hK
  obtain ⟨hd, f, cap, ds, sub, args, res, bs', hcallee, hargs, hsub, hclosed, hnodup, hwk, hdc, hs'⟩ := hcall
  generalize hids : reach s.hp (ds ++ cap) = ids at *
  obtain ⟨⟨fn, hfn, hname, hbody⟩, hdc⟩ := hdc
  -- the function
  have hcal' : ∃ cv cap0, evalD s x = some (.fn f cap0) ∧ cap = fzs cap0 ∧ a.eval x = .func (.func f) #[] cv ∧ (∀ O k, RepDs w h ρ cap O k cv.toList) := by
    unfold calleeD at hcallee
    split at hcallee
    · rename_i f' cap0 hx
      injection hcallee with q; injection q with q1 q2; subst q1; subst q2
      have hr := evalD_rep r hx
      simp only [RepD] at hr
      obtain ⟨vs, hv, hr⟩ := hr
      exact ⟨vs, cap0, hx, rfl, hv, fun O k => hr.fz_any O k⟩
    · cases hcallee
  obtain ⟨cv, cap0, hx, rfl, hv, hcv⟩ := hcal'
  obtain ⟨hdl, hdspec⟩ := argsD_spec hargs
  have hrun : (execOp a.eval o).run C.P w = .ok (.enter f (c.args.map a.eval ++ cv)) w := by
    have hb : ¬ (fn.body.isNone = true) := by rw [hbody]; simp
    simp only [execOp, hop, resolve, hcal, hv, Deferred.ofValue, Sem.run_bind, Sem.run_pure, Result.andThen_ok, invoke, callFunc, program, Sem.run, hfn, hname, Bool.false_eq_true, if_false, if_neg hb, Array.empty_append]
  obtain ⟨hsl, hsubspec⟩ := subHp_spec hsub
  have hidlt : ∀ i ∈ ids, i < s.hp.length := by
    intro i hi
    obtain ⟨j, hj⟩ := List.mem_iff_getElem?.1 hi
    obtain ⟨b, q1, _⟩ := hsubspec j i hj
    exact (List.getElem?_eq_some_iff.1 q1).1
  have hρget : ∀ i ∈ ids, ρ[i]? = some (ρ.getD i 0) := by
    intro i hi
    have hlt : i < ρ.length := by rw [← r.hr.len]; exact hidlt i hi
    rw [List.getElem?_eq_getElem hlt, List.getD_eq_getElem?_getD, List.getElem?_eq_getElem hlt]; rfl
  let ρc : List Nat := ids.map fun i => ρ.getD i 0
  let owc : Own := fun g => (ow g).bind (mapIn s c.args.toList ids)
  have hρc : ∀ i ∈ ids, ρc[idxIn ids i]? = ρ[i]? := by
    intro i hi
    simp only [ρc, List.getElem?_map, idx_get hi, Option.map_some, hρget i hi]
  -- the arguments
  have hA : RepDs w h ρ (ds ++ fzs cap0) (fun g p => owc g = some (.tmp p)) 0 ((c.args.map a.eval).toList ++ cv.toList) := by
    refine RepDs.append (RepDs.of_get (by simp [hdl]) fun k d v hk hvk => ?_) (hcv _ _)
    have hkx : k < c.args.toList.length := by rw [← hdl]; exact (List.getElem?_eq_some_iff.1 hk).1
    obtain ⟨d0, q1, q2⟩ := hdspec k _ d (List.getElem?_eq_getElem hkx) hk
    rw [Array.toList_map, List.getElem?_map, List.getElem?_eq_getElem hkx] at hvk
    simp only [Option.map_some, Option.some.injEq] at hvk
    subst hvk
    have hr0 := evalD_rep r q1
    rcases q2 with ⟨hno, ⟨rfl, hno'⟩ | rfl⟩ | ⟨rfl, t, hxt, hot, huniq⟩
    · exact RepD.free _ _ _ _ hno hr0
    · exact RepD.fz _ _ _ _ hr0
    · rw [hxt] at hr0 ⊢
      refine hr0.rename fun g p ho => ?_
      have ho : ow g = some (.tmp (t :: p)) := ho
      have hfi := findIdx_unique (p := isTmp t) (List.getElem?_eq_getElem hkx) (by rw [hxt]; simp [isTmp]) huniq
      simp only [owc, ho, Option.bind_some, mapIn, hot, if_true, hfi, Option.map_some, Nat.zero_add]
  have hA' : RepDs w h ρc args (fun g p => owc g = some (.tmp p)) 0 ((c.args.map a.eval).toList ++ cv.toList) :=
    RepDs.wk hwk (RepDs.mapRefs _ _ _ _ _ (fun i hi => hρc i (by rw [← hids]; exact reach_mem hi)) hA)
  -- the boxes
  have hB : HR w h ρc owc (sub.map (mapRefs (idxIn ids))) := by
    refine ⟨by simp [ρc, hsl], fun j bx b g1 g2 hne => ?_, fun g hg => r.hr.lt g (fun e => hg (by simp [owc, e])), r.hr.hz⟩
    simp only [ρc, List.getElem?_map] at g1 g2
    obtain ⟨i, hi1, hi2⟩ := Option.map_eq_some_iff.1 g2
    obtain ⟨bx0, hb1, hb2⟩ := hsubspec j i hi1
    have hi : i ∈ ids := List.mem_of_getElem? hi1
    rw [hb2] at g1
    simp only [Option.map_some, Option.some.injEq] at g1
    subst g1
    have hρi : ρ[i]? = some b := by rw [hρget i hi, hi2]
    obtain ⟨p1, p2, cs, T, hh, hl0, hrr⟩ := r.hr.box i bx0 b hb1 hρi (fun e => hne (by rw [e]; rfl))
    have hj : idxIn ids i = j := idx_of_get hnodup hi1
    refine ⟨by simp [owc, p1, mapIn, hi, hj], p2, cs, T, hh, by rw [mapRefs_len]; exact hl0, ?_⟩
    rw [mapRefs_len]
    refine RepDs.mapRefs _ _ _ _ _ (fun i' hi' => hρc i' ?_) (hrr.rename fun g p ho => by simp [owc, ho, mapIn, hi, hj])
    have := boxRefs_spec (ids := ids) hi hb1 i' hi'
    have hc := List.all_eq_true.1 hclosed i' this
    simpa using hc
  have hG : Glob C w owc := ⟨r.glob.nb, fun b hb => ⟨(r.glob.eq b hb).1, by simp [owc, (r.glob.eq b hb).2]⟩⟩
  have hC := hdc w h owc ρc _ hA' hB hG
  unfold Oper.wp
  rw [hrun]
  show Calls C.P f (c.args.map a.eval ++ cv) w _
  have harr : (c.args.map a.eval ++ cv) = ((c.args.map a.eval).toList ++ cv.toList).toArray := by simp
  rw [harr]
  refine hC.mono fun e w' ⟨v, h', owc', ex, he, hfr, hhr, hrv⟩ => ?_
  subst he
  show K (a.put o.dst v) w'
  have hmine : ∀ g, owc' g ≠ none → ¬ (g < w.heap.size ∧ owc g = none) := fun g hg hc => hg (hfr.keep g hc.1 hc.2).2.2
  let ow' : Own := fun g => if g < w.heap.size ∧ owc g = none then ow g else (owc' g).map (mapOut o.dst ids s.hp.length bs'.length)
  have hlen : ids.length ≤ bs'.length := by rw [hhr.len]; simp [ρc]
  have hρlen : s.hp.length = ρ.length := r.hr.len
  have hρb : ∀ j, j < bs'.length → (ρ ++ ex)[backId ids s.hp.length bs'.length j]? = (ρc ++ ex)[j]? := by
    intro j hjm
    unfold backId
    split
    · rename_i i hj
      have hi : i ∈ ids := List.mem_of_getElem? hj
      have hjl := (List.getElem?_eq_some_iff.1 hj).1
      rw [List.getElem?_append_left (by rw [← hρlen]; exact hidlt i hi), List.getElem?_append_left (by simpa [ρc] using hjl)]
      simp only [ρc, List.getElem?_map, hj, Option.map_some, hρget i hi]
    · rename_i hj
      have hjl : ids.length ≤ j := List.getElem?_eq_none_iff.1 hj
      rw [if_pos hjm, List.getElem?_append_right (by omega), List.getElem?_append_right (by simpa [ρc] using hjl)]
      congr 1
      simp [ρc]; omega
  have hrng : ∀ j, (∃ b, (ρc ++ ex)[j]? = some b) → j < bs'.length := by
    rintro j ⟨b, hb⟩
    have := (List.getElem?_eq_some_iff.1 hb).1
    rw [hhr.len]; exact this
  have hst : Stable w h w' h' := hfr.st
  have hkeepO : ∀ (P : Nat → List Nat → Prop), (∀ g p, P g p → ow g ≠ none ∧ owc g = none) → ∀ g p, P g p → w'.heap[g]? = w.heap[g]? ∧ h' g = h g ∧ ow' g = ow g := by
    intro P hP g p hp
    obtain ⟨k1, k2⟩ := hP g p hp
    have hlt := r.hr.lt g k1
    obtain ⟨e1, e2, e3⟩ := hfr.keep g hlt k2
    exact ⟨e1, e2, by simp only [ow']; rw [if_pos ⟨hlt, k2⟩]⟩
  have hpre : ∀ (i b : Nat), ρ[i]? = some b → (ρ ++ ex)[i]? = some b := fun i b hi => by
    rw [List.getElem?_append_left (List.getElem?_eq_some_iff.1 hi).1]; exact hi
  have hout : ∀ g q, owc' g = some q → ow' g = some (mapOut o.dst ids s.hp.length bs'.length q) := by
    intro g q hq
    simp only [ow']
    rw [if_neg (hmine g (by rw [hq]; simp)), hq]; rfl
  have hfr' : Fr w h ow w' h' ow' := ⟨hst, hfr.size, hfr.os, hfr.tape, hfr.output, fun b hb ho => by
    have hoc : owc b = none := by simp [owc, ho]
    obtain ⟨e1, e2, e3⟩ := hfr.keep b hb hoc
    exact ⟨e1, e2, by simp only [ow']; rw [if_pos ⟨hb, hoc⟩]; exact ho⟩⟩
  have hwlen := writeBack_len (hp := s.hp) (ids := ids) (bs := bs'.map (mapRefs (backId ids s.hp.length bs'.length))) (by simpa using hlen)
  refine hK _ _ h' ow' (ρ ++ ex) ?_
  rw [hs']
  have hHR : HR w' h' (ρ ++ ex) ow' (writeBack s.hp ids (bs'.map (mapRefs (backId ids s.hp.length bs'.length)))) := by
    refine ⟨?_, fun i bx b g1 g2 hne => ?_, fun g hg => ?_, hhr.hz⟩
    · rw [hwlen]
      have := hhr.len
      simp [ρc] at this
      simp; omega
    · rw [writeBack_get hnodup hidlt (by simpa using hlen)] at g1
      -- a box that the callee has had, or has made
      have fromC : ∀ j (bx0 : List DV), bs'[j]? = some bx0 → i = backId ids s.hp.length bs'.length j → bx = mapRefs (backId ids s.hp.length bs'.length) bx0 →
          ow' b = some (.box i) ∧ h' b = 0 ∧ ∃ cs T, w'.heap[b]? = some (.cells cs T (0, 0)) ∧ bx.length ≤ cs.size ∧ RepDs w' h' (ρ ++ ex) bx (fun g p => ow' g = some (.cell (i :: p))) 0 (cs.toList.take bx.length) := by
        intro j bx0 hj hij hbx
        subst hbx
        have hjb : (ρc ++ ex)[j]? = some b := by rw [← hρb j (List.getElem?_eq_some_iff.1 hj).1, ← hij]; exact g2
        obtain ⟨p1, p2, cs, T, hh, hl0, hrr⟩ := hhr.box j bx0 b hj hjb (fun e => hne (by rw [e]; rfl))
        refine ⟨by rw [hout b _ p1, hij]; rfl, p2, cs, T, hh, by rw [mapRefs_len]; exact hl0, ?_⟩
        rw [mapRefs_len]
        exact RepDs.mapRefs _ _ _ _ _ (fun i' hi' => hρb i' (hrng i' (RepDs.refs_ok _ _ _ _ hrr i' hi'))) (hrr.rename fun g p ho => by rw [hout g _ ho, hij]; rfl)
      split at g1
      · rename_i hilt
        split at g1
        · rename_i hi
          rw [List.getElem?_map] at g1
          obtain ⟨bx0, q1, q2⟩ := Option.map_eq_some_iff.1 g1
          exact fromC _ bx0 q1 (by unfold backId; rw [idx_get hi]) q2.symm
        · rename_i hi
          have hρi : ρ[i]? = some b := by
            rw [List.getElem?_append_left (by omega)] at g2; exact g2
          obtain ⟨p1, p2, cs, T, hh, hl0, hrr⟩ := r.hr.box i bx b g1 hρi hne
          have hb := hkeepO (fun g _ => g = b) (fun g p e => by rw [e]; exact ⟨by rw [p1]; simp, by simp [owc, p1, mapIn, hi]⟩) b [] rfl
          refine ⟨by rw [hb.2.2]; exact p1, by rw [hb.2.1]; exact p2, cs, T, by rw [hb.1]; exact hh, hl0, ?_⟩
          refine RepDs.step hst hpre bx _ _ 0 _ (fun g p ho => ?_) hrr
          have := hkeepO (fun g p => ow g = some (.cell (i :: p))) (fun g p e => ⟨by rw [e]; simp, by simp [owc, e, mapIn, hi]⟩) g p ho
          exact ⟨this.1, this.2.1, by rw [this.2.2]; exact ho⟩
      · rename_i hilt
        rw [List.getElem?_map] at g1
        obtain ⟨bx0, q1, q2⟩ := Option.map_eq_some_iff.1 g1
        refine fromC _ bx0 q1 ?_ q2.symm
        unfold backId
        rw [List.getElem?_eq_none_iff.2 (by omega)]
        simp only []
        rw [if_pos (List.getElem?_eq_some_iff.1 q1).1]
        omega
    · by_cases hc : g < w.heap.size ∧ owc g = none
      · exact Nat.lt_of_lt_of_le hc.1 hfr.size
      · simp only [ow'] at hg
        rw [if_neg hc] at hg
        exact hhr.lt g (fun e => hg (by simp [e]))
  have hgone : ∀ i, ((s.kills (given s c.args.toList)).tm i = .un) ∨ ((s.kills (given s c.args.toList)).tm i = s.tm i ∧ ∀ g p, ow g = some (.tmp (i :: p)) → owc g = none) := by
    intro i
    simp only [St.kills]
    by_cases hi : (given s c.args.toList).contains i = true
    · rw [if_pos hi]; exact .inl rfl
    · rw [if_neg hi]
      refine .inr ⟨rfl, fun g p ho => ?_⟩
      simp only [owc, ho, Option.bind_some, mapIn]
      split
      · rename_i hown
        have : (c.args.toList.findIdx? (isTmp i)) = none := by
          rw [List.findIdx?_eq_none_iff]
          intro y hy
          rcases hq : isTmp i y with _ | _
          · rfl
          · exfalso
            apply hi
            have hyt : y = .tmp i := by
              cases y <;> simp [isTmp] at hq
              rw [hq]
            rw [hyt] at hy
            simpa using (given_mem (s := s)).2 ⟨hy, hown⟩
        rw [this]; rfl
      · rfl
  have htm : ∀ i, RepD w' h' (ρ ++ ex) ((s.kills (given s c.args.toList)).tm i) (fun g p => ow' g = some (.tmp (i :: p))) (a.tmps.getD i undef) := by
    intro i
    rcases hgone i with e | ⟨e, q⟩
    · rw [e]; simp only [RepD]
    · rw [e]
      refine RepD.step hst hpre _ _ _ _ (fun g p ho => ?_) (r.tm i)
      have := hkeepO (fun g p => ow g = some (.tmp (i :: p))) (fun g p e => ⟨by rw [e]; simp, q g p e⟩) g p ho
      exact ⟨this.1, this.2.1, by rw [this.2.2]; exact ho⟩
  have hdom : ∀ i, n ≤ i → (s.kills (given s c.args.toList)).tm i = .un := by
    intro i hi
    simp only [St.kills]
    split
    · rfl
    · exact r.dom i hi
  have hpre' : ∃ ex', ρ ++ ex = r0 ++ ex' := by
    obtain ⟨ex0, hex⟩ := r.pre
    exact ⟨ex0 ++ ex, by rw [hex, List.append_assoc]⟩
  unfold afterCall
  rcases hdst : o.dst with _ | d
  · simp only [St.put, Act.put]
    exact ⟨r.glob.fr hfr', r.fr.trans hfr', hHR, r.defers, r.size, htm, hdom, hpre'⟩
  · rw [hdst] at hd
    simp only [dstOk, decide_eq_true_eq] at hd
    have hd' : d < a.tmps.size := by rw [r.size]; exact hd
    refine ⟨r.glob.fr hfr', r.fr.trans hfr', hHR, r.defers, by simpa [Act.put] using r.size, fun i => ?_, fun i hi => ?_, hpre'⟩
    · rw [getD_put a d _ i hd']
      simp only [St.put]
      by_cases hid : i = d
      · rw [if_pos hid, if_pos hid]
        refine RepD.mapRef _ _ _ _ (fun i' hi' => hρb i' (hrng i' (RepD.refs_ok _ _ _ hrv i' hi'))) (hrv.rename fun g p ho => ?_)
        rw [hout g _ ho, hdst, hid]; rfl
      · rw [if_neg hid, if_neg hid]
        exact htm i
    · simp only [St.put]
      rw [if_neg (fun e => by rw [e] at hi; exact absurd hi (Nat.not_le_of_gt hd))]
      exact hdom i hi
end Go.Proofs.Dm

set_option linter.unusedVariables false
set_option linter.unusedSimpArgs false
namespace Go.Proofs.Dm
open Go Go.RowKit
def handsOn (t : Tmp) (o : Oper) : Bool :=
  if o.op.operands.any (isTmp t) then
    match o.op with
    | .assign _ => true
    | .store _ a _ => !(isTmp t a)
    | .build _ _ => true
    | .buildSlice _ _ _ => true
    | .call c => match c.callee, c.args.toList with
      | .builtin .append, [x, y] => isTmp t x && !(isTmp t y)
      | _, _ => false
    | _ => false
  else true
def lenOf (t : Tmp) (o : Oper) : Bool := match o.op with
  | .call c => match c.callee, c.args.toList with
    | .builtin .len, [x] => isTmp t x
    | _, _ => false
  | _ => false
def takes (ops : List Oper) (o : Oper) : Bool :=
  match o.dst with
  | some t => ops.all (fun q => lenOf t q || handsOn t q) && ops.any (fun q => q.op.operands.any (isTmp t) && !(lenOf t q))
  | none => false
def guardD (ops : Array Oper) (o : Oper) (s : St) : Option Bool :=
  match o.guard with
  | none => some true
  | some (j, want) => match (ops[j]?).bind (·.dst) with
    | some t => match s.tm t with
      | .p (.bool b) => some (b == want)
      | .ud => some false
      | _ => none
    | none => none
theorem guardD_ok {C w0 h0 ow0 r0 n s a w h ow ρ} (r : Rel C w0 h0 ow0 r0 n s a w h ow ρ) {ops : Array Oper} {o : Oper} {b : Bool} (e : guardD ops o s = some b) : Region.wanted o (yielded ops a.tmps) = b := by
  unfold guardD at e
  unfold Region.wanted
  split at e
  · rename_i hg; injection e with e; subst e; rw [hg]
  · rename_i j want hg
    rw [hg]
    split at e
    · rename_i t ht
      split at e
      · rename_i b' hb
        injection e with e; subst e
        have := r.tm t
        rw [hb] at this
        simp only [RepD, Rep] at this
        have hlt : t < n := by
          rcases Nat.lt_or_ge t n with q | q
          · exact q
          · rw [r.dom t q] at hb; cases hb
        have hget : a.tmps[t]? = some (.bool b') := by
          have hl : t < a.tmps.size := by rw [r.size]; exact hlt
          rw [Array.getD_eq_getD_getElem?, Array.getElem?_eq_getElem hl] at this
          rw [Array.getElem?_eq_getElem hl]
          simpa using this
        simp only [yielded, ht, Option.bind_some, hget]
        cases b' <;> cases want <;> rfl
      · rename_i hb
        injection e with e; subst e
        have := r.tm t
        rw [hb] at this
        simp only [RepD] at this
        have hlt : t < n := by
          rcases Nat.lt_or_ge t n with q | q
          · exact q
          · rw [r.dom t q] at hb; cases hb
        have hget : a.tmps[t]? = some undef := by
          have hl : t < a.tmps.size := by rw [r.size]; exact hlt
          rw [Array.getD_eq_getD_getElem?, Array.getElem?_eq_getElem hl] at this
          rw [Array.getElem?_eq_getElem hl]
          simpa using this
        simp only [yielded, ht, Option.bind_some, hget]
        cases want <;> rfl
      · cases e
    · cases e
def opTo (C : Ctx) (n : Nat) (tk : Bool) (o : Oper) (s s' : St) : Prop :=
  match o.op with
  | .call c => match c.callee with
    | .value x => callTo C n o c x s s'
    | _ => stepD C.P n tk o s = some s'
  | _ => stepD C.P n tk o s = some s'
theorem opTo_ok {C w0 h0 ow0 r0 n tk o s s'} (e : opTo C n tk o s s') : StepOK C w0 h0 ow0 r0 n o s s' := by
  unfold opTo at e
  split at e
  · rename_i c hop
    split at e
    · rename_i x hc; exact callTo_ok hop hc e
    · exact stepD_ok e
  · exact stepD_ok e
def opsTo (C : Ctx) (n : Nat) (ops : Array Oper) : List Oper → St → St → Prop
  | [], s, s' => s = s'
  | o :: rest, s, s' => ∃ g, guardD ops o s = some g ∧ dstOk n o.dst = true ∧ ∃ s1, (if g then opTo C n (takes ops.toList o) o s s1 else s1 = s.put o.dst .ud) ∧ opsTo C n ops rest s1 s'
theorem opsTo_ok {C w0 h0 ow0 r0 n} {ops : Array Oper} {Q : Exit → Act → World → Prop} : ∀ (l : List Oper) (s s' : St), opsTo C n ops l s s' → (Good C w0 h0 ow0 r0 n s' (Q .normal)) →
    Good C w0 h0 ow0 r0 n s (fun a w => wpList C.P ops Q l a w)
  | [], s, s', e, hK => by
    simp only [opsTo] at e; subst e
    intro a w h ow ρ r
    exact hK a w h ow ρ r
  | o :: rest, s, s', e, hK => by
    obtain ⟨g, hg, hd, s1, h1, h2⟩ := e
    have ih := opsTo_ok rest s1 s' h2 hK
    intro a w h ow ρ r
    have hw := guardD_ok r hg
    unfold wpList
    cases g with
    | true =>
      rw [if_pos hw]
      simp only [if_true] at h1
      exact .inl (opTo_ok h1 a w h ow ρ r _ Q ih)
    | false =>
      rw [if_neg (by rw [hw]; simp)]
      simp only [Bool.false_eq_true, if_false] at h1
      subst h1
      exact ih _ _ _ _ _ (r.put o.dst hd fun O => by simp only [RepD])
end Go.Proofs.Dm

set_option linter.unusedVariables false
set_option linter.unusedSimpArgs false
namespace Go.Proofs.Dm
open Go Go.RowKit
def upd (t : Nat → DV) (d : Nat) (v : DV) : Nat → DV := fun i => if i = d then v else t i
theorem upd_same (t : Nat → DV) (d : Nat) (v : DV) : upd t d v d = v := by simp [upd]
theorem upd_ne (t : Nat → DV) (d i : Nat) (v : DV) (h : (i == d) = false) : upd t d v i = t i := by simp [upd]; intro e; simp [e] at h
def ini : List DV → Nat → DV
  | [], _ => .un
  | a :: _, 0 => a
  | _ :: as, n + 1 => ini as n
theorem ini_eq : ∀ (l : List DV), (fun i => l.getD i .un) = ini l
  | [] => by funext i; simp [ini]
  | a :: as => by
    funext i
    cases i with
    | zero => simp [ini]
    | succ n =>
      have := congrFun (ini_eq as) n
      simp only [ini, ← this]
      simp
def IfGoal (t : Bool) (a b : St → Prop) (s : St) : Prop := if t = true then a s else b s
theorem IfGoal_true (a b : St → Prop) (s : St) : IfGoal true a b s = a s := by simp [IfGoal]
theorem IfGoal_false (a b : St → Prop) (s : St) : IfGoal false a b s = b s := by simp [IfGoal]
theorem IfGoal.intro {t : Bool} {a b : St → Prop} {s : St} (h1 : t = true → a s) (h2 : t = false → b s) : IfGoal t a b s := by
  cases t
  · rw [IfGoal_false]; exact h2 rfl
  · rw [IfGoal_true]; exact h1 rfl
def CallGoal (C : Ctx) (f : FuncId) (a : List DV) (sub : List (List DV)) (k : St → Prop) (s : St) (dst : Option Tmp) (gone : List Tmp) (ids : List Nat) : Prop :=
  ∃ args r bs', Wks a args ∧ DCalls C f args sub r bs' ∧ k (afterCall s dst gone ids r bs')
theorem CallGoal.intro {C : Ctx} {f : FuncId} {a : List DV} {sub : List (List DV)} {k : St → Prop} {s : St} {dst : Option Tmp} {gone : List Tmp} {ids : List Nat} {args r bs'}
    (hd : DCalls C f args sub r bs') (hw : Wks a args) (hk : k (afterCall s dst gone ids r bs')) : CallGoal C f a sub k s dst gone ids := ⟨args, r, bs', hw, hd, hk⟩
def nodupB : List Nat → Bool
  | [] => true
  | x :: xs => !(xs.contains x) && nodupB xs
theorem nodupB_spec : ∀ {l : List Nat}, nodupB l = true → l.Nodup
  | [], _ => List.nodup_nil
  | x :: xs, h => by
    simp only [nodupB, Bool.and_eq_true, Bool.not_eq_true'] at h
    exact List.nodup_cons.2 ⟨by intro hm; have := h.1; simp [hm] at this, nodupB_spec h.2⟩
def callPrep2 (hp : List (List DV)) (f : FuncId) (dc : List DV) (gone : List Tmp) (ids : List Nat) : Option (FuncId × List DV × List Nat × List (List DV) × List Tmp) :=
  match subHp hp ids with
  | some sub => if closedIn ids (boxRefs hp ids) && nodupB ids then some (f, mapRefs (idxIn ids) dc, ids, sub.map (mapRefs (idxIn ids)), gone) else none
  | none => none
def callPrep (s : St) (x : Operand) (args : List Operand) : Option (FuncId × List DV × List Nat × List (List DV) × List Tmp) :=
  match calleeD s x, argsD s args args with
  | some (f, cap), some ds => callPrep2 s.hp f (ds ++ cap) (given s args) (reach s.hp (ds ++ cap))
  | _, _ => none
def opWp (C : Ctx) (n : Nat) (tk : Bool) (o : Oper) (k : St → Prop) (s : St) : Prop :=
  match o.op with
  | .call c => match c.callee with
    | .value x => match callPrep s x c.args.toList with
      | some (f, a, ids, sub, gone) => CallGoal C f a sub k s o.dst gone ids
      | none => False
    | _ => match stepD C.P n tk o s with
      | some s' => k s'
      | none => False
  | _ => match stepD C.P n tk o s with
    | some s' => k s'
    | none => False
theorem opWp_to {C n tk o k s} (hd : dstOk n o.dst = true) (e : opWp C n tk o k s) : ∃ s', opTo C n tk o s s' ∧ k s' := by
  unfold opWp at e
  unfold opTo
  cases hop : o.op with
  | call c =>
    rw [hop] at e
    dsimp only at e ⊢
    cases hc : c.callee with
    | value x =>
      rw [hc] at e
      dsimp only at e ⊢
      split at e
      · rename_i f a ids sub gone hp
        obtain ⟨args, r, bs', hw, hdc, hk⟩ := e
        unfold callPrep at hp
        split at hp
        · rename_i f' cap ds h1 h2
          unfold callPrep2 at hp
          split at hp
          · rename_i sub' h3
            split at hp
            · rename_i h4
              simp only [Bool.and_eq_true] at h4
              simp only [Option.some.injEq, Prod.mk.injEq] at hp
              obtain ⟨rfl, rfl, rfl, rfl, rfl⟩ := hp
              exact ⟨_, ⟨hd, f', cap, ds, sub', args, r, bs', h1, h2, h3, h4.1, nodupB_spec h4.2, hw, hdc, rfl⟩, hk⟩
            · cases hp
          · cases hp
        · cases hp
      · exact e.elim
    | _ =>
      rw [hc] at e
      dsimp only at e ⊢
      split at e
      · rename_i s' hs
        exact ⟨s', hs, e⟩
      · exact e.elim
  | _ =>
    rw [hop] at e
    dsimp only at e ⊢
    split at e
    · rename_i s' hs
      exact ⟨s', hs, e⟩
    · exact e.elim
def opsWp (C : Ctx) (n : Nat) (ops : List Oper) : List Oper → (St → Prop) → St → Prop
  | [], k, s => k s
  | o :: rest, k, s => match o.guard with
    | none => dstOk n o.dst = true ∧ opWp C n (takes ops o) o (opsWp C n ops rest k) s
    | some (j, want) => match (ops[j]?).bind (·.dst) with
      | some t => match s.tm t with
        | .p (.bool b) => dstOk n o.dst = true ∧ IfGoal (b == want) (opWp C n (takes ops o) o (opsWp C n ops rest k)) (fun s => opsWp C n ops rest k (s.put o.dst .ud)) s
        | .ud => dstOk n o.dst = true ∧ opsWp C n ops rest k (s.put o.dst .ud)
        | _ => False
      | none => False
theorem opsWp_to {C n} {ops : List Oper} : ∀ {l : List Oper} {k s}, opsWp C n ops l k s → ∃ s', opsTo C n ops.toArray l s s' ∧ k s'
  | [], k, s, e => ⟨s, rfl, e⟩
  | o :: rest, k, s, e => by
    simp only [opsWp] at e
    simp only [opsTo]
    split at e
    · rename_i hg
      obtain ⟨hd, e⟩ := e
      obtain ⟨s1, h1, h2⟩ := opWp_to hd e
      obtain ⟨s', h3, h4⟩ := opsWp_to h2
      exact ⟨s', ⟨true, by simp [guardD, hg], hd, s1, by simpa using h1, h3⟩, h4⟩
    · rename_i j want hg
      split at e
      · rename_i t ht
        split at e
        · rename_i b hb
          obtain ⟨hd, e⟩ := e
          have hgd : guardD ops.toArray o s = some (b == want) := by
            simp only [guardD, hg, List.getElem?_toArray, ht, hb]
          rcases hbw : (b == want) with _ | _
          · rw [hbw, IfGoal_false] at e
            obtain ⟨s', h3, h4⟩ := opsWp_to e
            exact ⟨s', ⟨false, by rw [hgd, hbw], hd, _, by simp, h3⟩, h4⟩
          · rw [hbw, IfGoal_true] at e
            obtain ⟨s1, h1, h2⟩ := opWp_to hd e
            obtain ⟨s', h3, h4⟩ := opsWp_to h2
            exact ⟨s', ⟨true, by rw [hgd, hbw], hd, s1, by simpa using h1, h3⟩, h4⟩
        · rename_i hb
          obtain ⟨hd, e⟩ := e
          have hgd : guardD ops.toArray o s = some false := by
            simp only [guardD, hg, List.getElem?_toArray, ht, hb]
          obtain ⟨s', h3, h4⟩ := opsWp_to e
          exact ⟨s', ⟨false, hgd, hd, _, by simp, h3⟩, h4⟩
        · exact e.elim
      · exact e.elim
end Go.Proofs.Dm
