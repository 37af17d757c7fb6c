/- The D-machine, part T: code and functions. -/
import Derived.Test.YtcacihiiilemgaaDmGh
import Derived.Deep.LoopGhost
set_option linter.unusedVariables false
set_option linter.unusedSimpArgs false
namespace Go.Proofs.Dm
open Go Go.RowKit

theorem HR.take {w h ρ ow bs} (r : HR w h ρ ow bs) (m : Nat) (hm : m ≤ bs.length) (f : Pos → Pos) (hbox : ∀ i, f (.box i) = .box i)
    (hcell : ∀ (i : Nat) (p : List Nat), i < m → (∃ bx, bs[i]? = some bx ∧ hasOwns bx = true) → f (.cell (i :: p)) = .cell (i :: p))
    (hrefs : ∀ b ∈ bs.take m, ∀ i ∈ refsDs b, i < m) : HR w h (ρ.take m) (fun g => (ow g).map f) (bs.take m) := by
  refine ⟨by simp [r.len], fun i bx b g1 g2 hne => ?_, fun g hg => r.lt g (fun e => hg (by simp [e])), r.hz⟩
  have hmem := List.mem_of_getElem? g1
  rw [List.getElem?_take] at g1 g2
  split at g1
  · rename_i hi
    rw [if_pos hi] at g2
    obtain ⟨p1, p2, cs, T, hh, hl0, hrr⟩ := r.box i bx b g1 g2 hne
    refine ⟨by simp [p1, hbox], p2, cs, T, hh, hl0, ?_⟩
    have hmap : mapRefs (fun i => i) bx = bx := mapRefs_id bx
    have goal : RepDs w h (ρ.take m) (mapRefs (fun i => i) bx) (fun g p => (fun g => (ow g).map f) g = some (.cell (i :: p))) 0 (cs.toList.take bx.length) := ?_
    · rw [hmap] at goal; exact goal
    refine RepDs.mapRefs (ρ := ρ) _ _ _ _ _ (fun j hj => ?_) ?_
    · rw [List.getElem?_take, if_pos (hrefs bx hmem j hj)]
    · by_cases ho : hasOwns bx = true
      · exact hrr.rename fun g p q => by
          simp only [q, Option.map_some]
          rw [hcell i p hi ⟨bx, g1, ho⟩]
      · exact RepDs.free _ _ _ _ _ (by simpa using ho) hrr
  · cases g1
where
  mapRef_id : ∀ d : DV, mapRef (fun i => i) d = d
    | .ref i o => rfl
    | .agg cs => by simp only [mapRef, mapRefs_id cs]
    | .tup cs => by simp only [mapRef, mapRefs_id cs]
    | .fn g cs => by simp only [mapRef, mapRefs_id cs]
    | .p _ => rfl
    | .nil => rfl
    | .own _ _ _ => rfl
    | .fr _ => rfl
    | .un => rfl
    | .ud => rfl
    | .arr _ _ _ _ => rfl
    | .cp _ _ => rfl
    | .mt _ _ => rfl
  mapRefs_id : ∀ ds : List DV, mapRefs (fun i => i) ds = ds
    | [] => rfl
    | d :: ds => by simp only [mapRefs, mapRef_id d, mapRefs_id ds]


/-- Boxes made on the way are forgotten. -/
def dropD (k : Nat) (d : DV) : DV := if (refsD d).all (· < k) then d else .un
def dropSt (k : Nat) (s : St) : St := ⟨fun i => dropD k (s.tm i), s.hp.take k⟩
theorem Rel.drop {C w0 h0 ow0 r0 n s a w h ow ρ} (r : Rel C w0 h0 ow0 r0 n s a w h ow ρ) (k : Nat) (hk : k ≤ s.hp.length) (hr0 : r0.length ≤ k) (hrefs : ((s.hp.take k).all fun b => (refsDs b).all (· < k)) = true) :
    Rel C w0 h0 ow0 r0 n (dropSt k s) a w h ow (ρ.take k) := by
  have hb : ∀ b ∈ s.hp.take k, ∀ i ∈ refsDs b, i < k := by
    intro b hb i hi
    have := List.all_eq_true.1 hrefs b hb
    simpa using List.all_eq_true.1 this i hi
  refine ⟨r.glob, r.fr, ?_, r.defers, r.size, fun i => ?_, fun i hi => ?_, ?_⟩
  · have := r.hr.take k hk (fun p => p) (fun _ => rfl) (fun _ _ _ _ => rfl) hb
    have e : (fun g => (ow g).map (fun p => p)) = ow := by funext g; simp
    rw [e] at this
    exact this
  · show RepD w h (ρ.take k) (dropD k (s.tm i)) _ _
    unfold dropD
    split
    · rename_i hall
      rw [← HR.take.mapRef_id (s.tm i)]
      refine RepD.mapRef _ _ _ _ (fun j hj => ?_) (r.tm i)
      rw [List.getElem?_take, if_pos (by simpa using List.all_eq_true.1 hall j hj)]
    · simp only [RepD]
  · show dropD k (s.tm i) = .un
    rw [r.dom i hi]; simp [dropD, refsD]
  · obtain ⟨ex, hex⟩ := r.pre
    refine ⟨ex.take (k - r0.length), ?_⟩
    rw [hex, List.take_append, List.take_of_length_le hr0]
theorem Rel.r0len {C w0 h0 ow0 r0 n s a w h ow ρ} (r : Rel C w0 h0 ow0 r0 n s a w h ow ρ) : r0.length ≤ s.hp.length := by
  obtain ⟨ex, hex⟩ := r.pre
  rw [r.hr.len, hex]; simp
theorem Gh.drop {k0 : Nat} {s : St} (k : Nat) (h3 : k0 ≤ k) (h4 : k ≤ s.hp.length) (h5 : ((s.hp.take k).all fun b => (refsDs b).all (· < k)) = true) : Gh k0 s (dropSt k s) :=
  fun C w0 h0 ow0 r0 n a w h ow ρ hr0 r => ⟨h, ow, _, r.drop k h4 (by omega) h5⟩
/-- A round's end: the relation holds, perhaps behind steps of the state alone. -/
def RoundEnd (I : Nat → St → Prop) (k0 m : Nat) (s : St) : Prop :=
  ∃ m' s', m' < m ∧ Gh k0 s s' ∧ I m' s'
/-- A loop's beginning. -/
def Start (I : Nat → St → Prop) (m : Nat) (s : St) : Prop := ∃ s', Gh s.hp.length s s' ∧ I m s'
theorem Start.here {I : Nat → St → Prop} {m : Nat} {s : St} (h : I m s) : Start I m s := ⟨s, Gh.refl _ _, h⟩

/-! ### Code -/
inductive DX where
  | norm
  | exit (id : Nat)
  | goto (l : Nat)
  | ret
def DX.up : DX → Exit
  | .norm => .normal
  | .exit i => .exit i
  | .goto l => .goto l
  | .ret => .ret
def Lift (C : Ctx) (w0 : World) (h0 : Mark) (ow0 : Own) (r0 : List Nat) (n : Nat) (Q : DX → St → Prop) : Exit → Act → World → Prop :=
  fun e a w => ∃ dx s h ow ρ, dx.up = e ∧ Q dx s ∧ Rel C w0 h0 ow0 r0 n s a w h ow ρ
theorem Lift.norm {C w0 h0 ow0 r0 n Q a w} (l : Lift C w0 h0 ow0 r0 n Q .normal a w) : ∃ s h ow ρ, Q .norm s ∧ Rel C w0 h0 ow0 r0 n s a w h ow ρ := by
  obtain ⟨dx, s, h, ow, ρ, e, q, r⟩ := l
  cases dx <;> simp [DX.up] at e
  exact ⟨s, h, ow, ρ, q, r⟩

/-- A statement. -/
def regionTo (C : Ctx) (n : Nat) (ops : Array Oper) (draw : Bool) (s s' : St) : Prop := if draw then drawTo C n ops.toList s s' else opsTo C n ops ops.toList s s'

def dwp (C : Ctx) (n : Nat) : Code → (DX → St → Prop) → St → Prop
  | .skip, Q, s => Q .norm s
  | .label _, Q, s => Q .norm s
  | .region _ ops draw, Q, s => ∃ s', regionTo C n ops draw s s' ∧ Q .norm s'
  | .seq a b, Q, s => dwp C n a (fun e s' => match e with
    | .norm => dwp C n b Q s'
    | e => Q e s') s
  | .cond c a b, Q, s => match evalD s c with
    | some (.p (.bool t)) => (t = true → dwp C n a Q s) ∧ (t = false → dwp C n b Q s)
    | _ => False
  | .block id c, Q, s => dwp C n c (fun e s' => match e with
    | .exit j => if j = id then Q .norm s' else Q (.exit j) s'
    | e => Q e s') s
  | .loop c, Q, s0 => ∃ (I : Nat → St → Prop) (m : Nat), Start I m s0 ∧ ∀ m s, I m s → dwp C n c (fun e s' => match e with
    | .norm => RoundEnd I s0.hp.length m s'
    | e => Q e s') s
  | .exit id, Q, s => Q (.exit id) s
  | .goto l, Q, s => Q (.goto l) s
  | .ret, Q, s => Q .ret s
  | _, _, _ => False

theorem dwp_ok {C w0 h0 ow0 r0 n} : ∀ (c : Code) (Q : DX → St → Prop) (s : St), dwp C n c Q s → Good C w0 h0 ow0 r0 n s (fun a w => c.wp C.P (Lift C w0 h0 ow0 r0 n Q) a w)
  | .skip, Q, s, e => fun a w h ow ρ r => wp_skip ⟨.norm, s, h, ow, ρ, rfl, e, r⟩
  | .label _, Q, s, e => fun a w h ow ρ r => wp_label ⟨.norm, s, h, ow, ρ, rfl, e, r⟩
  | .exit id, Q, s, e => fun a w h ow ρ r => wp_exit ⟨.exit id, s, h, ow, ρ, rfl, e, r⟩
  | .goto l, Q, s, e => fun a w h ow ρ r => wp_goto ⟨.goto l, s, h, ow, ρ, rfl, e, r⟩
  | .ret, Q, s, e => fun a w h ow ρ r => wp_ret ⟨.ret, s, h, ow, ρ, rfl, e, r⟩
  | .region id ops draw, Q, s, e => by
    obtain ⟨s', h1, h2⟩ := e
    intro a w h ow ρ r
    cases draw with
    | false =>
      simp only [regionTo, Bool.false_eq_true, if_false] at h1
      refine wp_region_list ?_
      exact opsTo_ok ops.toList s s' h1 (fun a w h ow ρ r => ⟨.norm, s', h, ow, ρ, rfl, h2, r⟩) a w h ow ρ r
    | true =>
      simp only [regionTo, if_true] at h1
      have := drawTo_ok (id := id) h1 (Q := Lift C w0 h0 ow0 r0 n Q) (fun a w h ow ρ r => ⟨.norm, s', h, ow, ρ, rfl, h2, r⟩) a w h ow ρ r
      simpa using this
  | .seq c d, Q, s, e => by
    intro a w h ow ρ r
    refine wp_seq (wp_mono (dwp_ok c _ s e a w h ow ρ r) ?_)
    rintro x a' w' ⟨dx, s', h', ow', ρ', rfl, q, r'⟩
    cases dx with
    | norm => exact dwp_ok d Q s' q a' w' h' ow' ρ' r'
    | exit i => exact ⟨.exit i, s', h', ow', ρ', rfl, q, r'⟩
    | goto l => exact ⟨.goto l, s', h', ow', ρ', rfl, q, r'⟩
    | ret => exact ⟨.ret, s', h', ow', ρ', rfl, q, r'⟩
  | .cond c x y, Q, s, e => by
    intro a w h ow ρ r
    simp only [dwp] at e
    split at e
    · rename_i t hc
      have hr := evalD_rep r hc
      simp only [RepD, Rep] at hr
      refine wp_cond (t := t) hr ?_
      cases t with
      | true => exact dwp_ok x Q s (e.1 rfl) a w h ow ρ r
      | false => exact dwp_ok y Q s (e.2 rfl) a w h ow ρ r
    · exact e.elim
  | .block id c, Q, s, e => by
    intro a w h ow ρ r
    refine wp_block (wp_mono (dwp_ok c _ s e a w h ow ρ r) ?_)
    rintro x a' w' ⟨dx, s', h', ow', ρ', rfl, q, r'⟩
    cases dx with
    | norm => exact ⟨.norm, s', h', ow', ρ', rfl, q, r'⟩
    | exit i =>
      simp only [DX.up, Exit.inBlock] at q ⊢
      split
      · rename_i hi; rw [if_pos hi] at q; exact ⟨.norm, s', h', ow', ρ', rfl, q, r'⟩
      · rename_i hi; rw [if_neg hi] at q; exact ⟨.exit i, s', h', ow', ρ', rfl, q, r'⟩
    | goto l => exact ⟨.goto l, s', h', ow', ρ', rfl, q, r'⟩
    | ret => exact ⟨.ret, s', h', ow', ρ', rfl, q, r'⟩
  | .loop c, Q, s, e => by
    intro a w h ow ρ r
    obtain ⟨I, m, h1, h2⟩ := e
    have hr00 := r.r0len
    obtain ⟨s1, hgh, h1⟩ := h1
    obtain ⟨h1', ow1', ρ1', r1⟩ := hgh C w0 h0 ow0 r0 n a w h ow ρ hr00 r
    refine wp_loop_ghost (fun m a w => ∃ s h ow ρ, I m s ∧ Rel C w0 h0 ow0 r0 n s a w h ow ρ) m ⟨s1, h1', ow1', ρ1', h1, r1⟩ ?_
    rintro m a w ⟨s, h, ow, ρ, hI, r⟩
    refine wp_mono (dwp_ok c _ s (h2 m s hI) a w h ow ρ r) ?_
    rintro x a' w' ⟨dx, s', h', ow', ρ', rfl, q, r'⟩
    cases dx with
    | norm =>
      obtain ⟨m', s2, k1, k2, k3⟩ := q
      obtain ⟨h2, ow2, ρ2, r2⟩ := k2 C w0 h0 ow0 r0 n a' w' h' ow' ρ' hr00 r'
      exact ⟨m', k1, s2, h2, ow2, ρ2, k3, r2⟩
    | exit i => exact ⟨.exit i, s', h', ow', ρ', rfl, q, r'⟩
    | goto l => exact ⟨.goto l, s', h', ow', ρ', rfl, q, r'⟩
    | ret => exact ⟨.ret, s', h', ow', ρ', rfl, q, r'⟩
  | .rangeFunc _ _ _ _, Q, s, e => by simp [dwp] at e
  | .scope _, Q, s, e => by simp [dwp] at e
  | .refuse _, Q, s, e => by simp [dwp] at e

/-! ### Functions -/
def oneD (P : Program) (n0 : Nat) (s : St) : ResultVar → Option DV
  | .tmp t => some (s.tm t)
  | .cell a t => match s.tm a, tsz P t, tagg P t with
    | .ref id off, some z, some g => match s.hp[id]? with
      | some box => if off + z ≤ box.length ∧ box ≠ [] ∧ (n0 ≤ id ∨ hasOwns box = false) then asVal g ((box.drop off).take z) else none
      | none => none
    | _, _, _ => none
def manyD (P : Program) (n0 : Nat) (s : St) : List ResultVar → Option (List DV)
  | [] => some []
  | x :: xs => match oneD P n0 s x, manyD P n0 s xs with
    | some d, some ds => some (fz d :: ds)
    | _, _ => none
def resD (P : Program) (n0 : Nat) (s : St) : List ResultVar → Option DV
  | [x] => oneD P n0 s x
  | xs => (manyD P n0 s xs).map .tup
def isCell1 : List ResultVar → Bool
  | [.cell _ _] => true
  | _ => false
/-- A function has ended. -/
def fin (P : Program) (fn : Func) (n0 : Nat) (r : DV) (bs' : List (List DV)) (s0 : St) : Prop :=
  ∃ s, Gh n0 s0 s ∧ ∃ rr m, resD P n0 s fn.results.toList = some rr ∧ Wk rr r ∧ n0 ≤ m ∧ m ≤ s.hp.length ∧ bs' = s.hp.take m ∧ (∀ i ∈ refsD r, i < m) ∧ (∀ b ∈ bs', ∀ i ∈ refsDs b, i < m) ∧ (isCell1 fn.results.toList = true → m = n0)

def mvRes (x : ResultVar) (s : St) (g : Bool) (z : Nat) : Pos → Pos
  | .tmp (i :: p) => match x with
    | .tmp t => if i = t then .res p else .tmp (i :: p)
    | _ => .tmp (i :: p)
  | .cell (i :: k :: p) => match x with
    | .cell a _ => match s.tm a with
      | .ref id off => if i = id ∧ off ≤ k ∧ k < off + z then .res (if g then (k - off) :: p else p) else .cell (i :: k :: p)
      | _ => .cell (i :: k :: p)
    | _ => .cell (i :: k :: p)
  | p => p

theorem cell_run {P : Program} {t z g} (hz : tsz P t = some z) (hg : tagg P t = some g) (b off : Nat) (w : World) (vs : List Value) (hl : vs.length = z)
    (hc : ∀ j v, vs[j]? = some v → w.cell? ⟨b, off + j, none⟩ = some v) (v : Value) (hv : (g = true ∧ v = .agg vs.toArray) ∨ (g = false ∧ vs = [v])) :
    (loadVar t ⟨b, off, none⟩).run P w = .ok v w := by
  have := load_run hz hg b off w vs hl hc v hv
  simpa only [Instr.loadAt, Instr.sureAddr, Sem.run_bind, Sem.run_pure, Result.andThen_ok] using this

theorem oneD_ok {C w0 h0 ow0 r0 n s a w h ow ρ} (r : Rel C w0 h0 ow0 r0 n s a w h ow ρ) {n0 : Nat} {x : ResultVar} {d : DV} (e : oneD C.P n0 s x = some d) :
    ∃ v g z, (match x with | .tmp t => pure (a.tmps.getD t undef) | .cell b t => do loadVar t (← asAddr (a.tmps.getD b undef)) : Sem Value).run C.P w = .ok v w ∧
      RepD w h ρ d (fun q p => (ow q).map (mvRes x s g z) = some (.res p)) v ∧
      (∀ (i : Nat) (p : List Nat), i < n0 → (∃ bx, s.hp[i]? = some bx ∧ hasOwns bx = true) → mvRes x s g z (.cell (i :: p)) = .cell (i :: p)) := by
  cases x with
  | tmp t =>
    simp only [oneD, Option.some.injEq] at e
    subst e
    refine ⟨a.tmps.getD t undef, false, 0, rfl, (r.tm t).rename fun g p ho => by simp [ho, mvRes], fun i p _ _ => by cases p <;> simp [mvRes]⟩
  | cell b t =>
    simp only [oneD] at e
    split at e
    · rename_i id off z g htm hz hg
      split at e
      · rename_i box hb
        split at e
        · rename_i hc
          obtain ⟨hoff, hne, hown⟩ := hc
          have hx' := r.tm b
          rw [htm] at hx'
          simp only [RepD] at hx'
          obtain ⟨bb, hρ, hv⟩ := hx'
          obtain ⟨p1, p2, cs, T, hh, hl0, hrr⟩ := r.hr.box id box bb hb hρ hne
          have hlen := hrr.length
          have hdt : ((cs.toList.take box.length).drop off).take z = (cs.toList.drop off).take z := by
            rw [List.drop_take, List.take_take]; congr 1; omega
          have hcell : ∀ j u, ((cs.toList.drop off).take z)[j]? = some u → w.cell? ⟨bb, off + j, none⟩ = some u := by
            intro j u hj
            rw [List.getElem?_take] at hj
            split at hj
            · rw [List.getElem?_drop, Array.getElem?_toList] at hj
              simp [World.cell?, hh, hj]
            · cases hj
          have hl : ((cs.toList.drop off).take z).length = z := by simp at hlen ⊢; omega
          have hsub := repDs_part hrr off z
          rw [hdt] at hsub
          have hO2 : RepDs w h ρ ((box.drop off).take z) (fun q p => match p with | k :: p' => k < z ∧ ow q = some (.cell (id :: (off + k) :: p')) | [] => False) 0 ((cs.toList.drop off).take z) := by
            refine RepDs.of_get hsub.length fun i d v hd hv => ?_
            obtain ⟨v', h1, h2⟩ := hsub.get i d hd
            rw [h1] at hv; injection hv with hv; subst hv
            have hi : i < z := by
              have := (List.getElem?_eq_some_iff.1 h1).1
              rw [hl] at this; exact this
            exact h2.rename fun g p ho => by simpa using ⟨hi, ho⟩
          obtain ⟨u, hu1, hu2⟩ := asVal_rep e hO2 (fun q p => (ow q).map (mvRes (.cell b t) s g z) = some (.res p))
            (fun q k p ho => by
              obtain ⟨hk, ho⟩ := ho
              simp only [ho, Option.map_some, mvRes, htm]
              rw [if_pos ⟨trivial, by omega, by omega⟩]
              simp)
          refine ⟨u, g, z, ?_, hu2, fun i p hi hex => ?_⟩
          · simp only [hv, asAddr, Sem.run_bind, Sem.run_pure, Result.andThen_ok]
            exact cell_run hz hg bb off w _ hl hcell u hu1
          · cases p with
            | nil => simp [mvRes]
            | cons k p =>
              simp only [mvRes, htm]
              rw [if_neg]
              rintro ⟨q1, q2, q3⟩
              obtain ⟨bx, q4, q5⟩ := hex
              rw [q1] at hi q4
              rw [hb] at q4; injection q4 with q4; subst q4
              rcases hown with q | q
              · omega
              · rw [q] at q5; cases q5
        · cases e
      · cases e
    · cases e

theorem manyD_ok {C w0 h0 ow0 r0 n s a w h ow ρ} (r : Rel C w0 h0 ow0 r0 n s a w h ow ρ) {n0 : Nat} : ∀ {xs : List ResultVar} {ds : List DV}, manyD C.P n0 s xs = some ds →
    ∃ vs, (xs.mapM fun x => (match x with | .tmp t => pure (a.tmps.getD t undef) | .cell b t => do loadVar t (← asAddr (a.tmps.getD b undef)) : Sem Value)).run C.P w = .ok vs w ∧ ∀ O k, RepDs w h ρ ds O k vs
  | [], ds, e => by simp only [manyD, Option.some.injEq] at e; subst e; exact ⟨[], by simp, fun O k => by simp only [RepDs]⟩
  | x :: xs, ds, e => by
    simp only [manyD] at e
    split at e
    · rename_i d ds' h1 h2
      injection e with e; subst e
      obtain ⟨v, g, z, q1, q2, _⟩ := oneD_ok r h1
      obtain ⟨vs, q3, q4⟩ := manyD_ok r h2
      refine ⟨v :: vs, ?_, fun O k => ?_⟩
      · simp only [List.mapM_cons, Sem.run_bind, q1, Result.andThen_ok, q3, Sem.run_pure]
      · simp only [RepDs]
        exact ⟨v, vs, rfl, RepD.fz _ _ _ _ q2, q4 O (k + 1)⟩
    · cases e

theorem manyD_len {P : Program} {n0 : Nat} {s : St} : ∀ {xs : List ResultVar} {ds : List DV}, manyD P n0 s xs = some ds → ds.length = xs.length
  | [], ds, e => by simp only [manyD, Option.some.injEq] at e; subst e; rfl
  | x :: xs, ds, e => by
    simp only [manyD] at e
    split at e
    · rename_i d ds' h1 h2
      injection e with e; subst e
      simp [manyD_len h2]
    · cases e
theorem results_run {P : Program} {fn : Func} {tmps : Array Value} {w : World} {vs : List Value}
    (q : (fn.results.toList.mapM fun x => (match x with | .tmp t => pure (tmps.getD t undef) | .cell b t => do loadVar t (← asAddr (tmps.getD b undef)) : Sem Value)).run P w = .ok vs w) :
    (results fn tmps).run P w = .ok (if h : vs.toArray.size = 1 then vs.toArray[0] else .tuple vs.toArray) w := by
  unfold results
  rw [Array.mapM_eq_mapM_toList]
  rw [Sem.run_bind, Sem.run_map]
  erw [q]
  simp only [Result.andThen_ok, Sem.run_pure]

theorem dcalls_of_body {C : Ctx} {f : FuncId} {fn : Func} {c : Code} (hf : C.P.funcs[f]? = some fn) (hb : fn.body = some c) (hname : (fn.name == "runtime.NumGoroutine") = false) {args : List DV} {bs : List (List DV)} {r : DV} {bs' : List (List DV)}
    (hn : args.length ≤ fn.ntmps) (h : dwp C fn.ntmps c (fun e s => (match e with | .norm => True | .ret => True | _ => False) ∧ fin C.P fn bs.length r bs' s) ⟨fun i => args.getD i .un, bs⟩) : DCalls C f args bs r bs' := by
  refine ⟨⟨fn, hf, hname, by rw [hb]; rfl⟩, fun w hm ow ρ vs ha hbx hg => ?_⟩
  have hvl := ha.length
  have r0 : Rel C w hm ow ρ fn.ntmps ⟨fun i => args.getD i .un, bs⟩ { tmps := vs.toArray ++ Array.replicate (fn.ntmps - vs.toArray.size) undef, defers := [] } w hm ow ρ := by
    refine ⟨hg, Fr.refl _ _ _, hbx, rfl, ?_, fun i => ?_, fun i hi => ?_, ⟨[], by simp⟩⟩
    · simp; omega
    · simp only []
      by_cases hi : i < args.length
      · rw [List.getD_eq_getElem?_getD, List.getElem?_eq_getElem hi]
        obtain ⟨v, q1, q2⟩ := ha.get i args[i] (List.getElem?_eq_getElem hi)
        have : (vs.toArray ++ Array.replicate (fn.ntmps - vs.toArray.size) undef).getD i undef = v := by
          rw [Array.getD_eq_getD_getElem?, Array.getElem?_append_left (by simp; omega)]
          simp [q1]
        rw [this]
        simpa using q2
      · rw [List.getD_eq_getElem?_getD, List.getElem?_eq_none (by omega)]
        simp only [Option.getD_none, RepD]
    · show args.getD i .un = .un
      rw [List.getD_eq_getElem?_getD, List.getElem?_eq_none (by omega)]; rfl
  refine calls_of_wp hf hb (wp_mono (dwp_ok c _ _ h _ _ _ _ _ r0) ?_)
  rintro e a w' ⟨dx, s00, h00, ow00, ρ00, rfl, ⟨hdx, s, hgh, rr, m, hres, hwk, hm1, hm2, hbs', hr1, hr2, hcell1⟩, rel00⟩
  obtain ⟨h', ow', ρ', rel⟩ := hgh C w hm ow ρ fn.ntmps a w' h00 ow00 ρ00 (by rw [hbx.len]; exact Nat.le_refl _) rel00
  obtain ⟨ex, hex⟩ := rel.pre
  have hρl : s.hp.length = ρ'.length := rel.hr.len
  have hbl : bs.length = ρ.length := hbx.len
  have main : a.defers = [] ∧ ∃ v, (results fn a.tmps).run C.P w' = .ok v w' ∧ ∃ v0 h'' ow'' ex', Ending.returned v = .returned v0 ∧ Fr w hm ow w' h'' ow'' ∧ HR w' h'' (ρ ++ ex') ow'' bs' ∧ RepD w' h'' (ρ ++ ex') r (fun g p => ow'' g = some (.res p)) v0 := by
    refine ⟨rel.defers, ?_⟩
    have hex' : ρ'.take m = ρ ++ ex.take (m - ρ.length) := by
      rw [hex, List.take_append, List.take_of_length_le (by omega)]
    have fin1 : ∀ (v : Value) (f : Pos → Pos), (∀ i, f (.box i) = .box i) → (∀ (i : Nat) (p : List Nat), i < m → (∃ bx, s.hp[i]? = some bx ∧ hasOwns bx = true) → f (.cell (i :: p)) = .cell (i :: p)) →
        RepD w' h' ρ' rr (fun q p => (ow' q).map f = some (.res p)) v →
        ∃ v0 h'' ow'' ex', Ending.returned v = .returned v0 ∧ Fr w hm ow w' h'' ow'' ∧ HR w' h'' (ρ ++ ex') ow'' bs' ∧ RepD w' h'' (ρ ++ ex') r (fun g p => ow'' g = some (.res p)) v0 := by
      intro v f hfb hfc hrv
      refine ⟨v, h', fun g => (ow' g).map f, ex.take (m - ρ.length), rfl, ?_, ?_, ?_⟩
      · refine ⟨rel.fr.st, rel.fr.size, rel.fr.os, rel.fr.tape, rel.fr.output, fun b hb ho => ?_⟩
        obtain ⟨e1, e2, e3⟩ := rel.fr.keep b hb ho
        exact ⟨e1, e2, by simp [e3]⟩
      · rw [← hex', hbs']
        exact rel.hr.take m hm2 f hfb hfc (by rw [← hbs']; exact hr2)
      · rw [← hex', ← HR.take.mapRef_id r]
        exact RepD.mapRef _ _ _ _ (fun j hj => by rw [List.getElem?_take, if_pos (hr1 j hj)]) (RepD.wk hwk hrv)
    have hresd : fn.results = fn.results.toList.toArray := by simp
    rcases hrl : fn.results.toList with _ | ⟨x, _ | ⟨y, xs⟩⟩
    · rw [hrl] at hres hresd
      simp only [resD, manyD, Option.map_some, Option.some.injEq] at hres
      subst hres
      refine ⟨.tuple #[], by simp [results, hresd], fin1 _ (fun p => p) (fun _ => rfl) (fun _ _ _ _ => rfl) ?_⟩
      simp only [RepD]
      exact ⟨#[], rfl, by simp only [RepDs]⟩
    · rw [hrl] at hres hresd
      simp only [resD] at hres
      obtain ⟨v, g, z, q1, q2, q3⟩ := oneD_ok rel hres
      refine ⟨v, ?_, fin1 v (mvRes x s g z) (fun i => rfl) (fun i p hi hexx => ?_) q2⟩
      · rw [results_run (vs := [v]) (by rw [hrl]; simp only [List.mapM_cons, List.mapM_nil, Sem.run_bind, Sem.run_pure, q1, Result.andThen_ok])]
        simp
      · cases x with
        | tmp t => cases p <;> simp [mvRes]
        | cell b t =>
          have hm0 : m = bs.length := hcell1 (by rw [hrl]; rfl)
          exact q3 i p (by omega) hexx
    · rw [hrl] at hres hresd
      simp only [resD] at hres
      obtain ⟨ds, h1, h2⟩ := Option.map_eq_some_iff.1 hres
      subst h2
      obtain ⟨vs, q1, q2⟩ := manyD_ok rel h1
      refine ⟨.tuple vs.toArray, ?_, fin1 _ (fun p => p) (fun _ => rfl) (fun _ _ _ _ => rfl) ?_⟩
      · have hl : vs.length = ds.length := (q2 (fun _ _ => False) 0).length
        have hdl : ds.length = (x :: y :: xs).length := manyD_len h1
        rw [results_run (vs := vs) (by rw [hrl]; exact q1)]
        rw [dif_neg (by simp at hdl ⊢; omega)]
      · simp only [RepD]
        exact ⟨_, rfl, by simpa using q2 _ 0⟩
  cases dx with
  | norm => exact main
  | ret => exact main
  | exit i => exact hdx.elim
  | goto l => exact hdx.elim

def cwp (C : Ctx) (n : Nat) : Code → (DX → St → Prop) → St → Prop
  | .skip, Q, s => Q .norm s
  | .label _, Q, s => Q .norm s
  | .region _ ops draw, Q, s => if draw then drawWp C n ops.toList (Q .norm) s else opsWp C n ops.toList ops.toList (Q .norm) s
  | .seq a b, Q, s => cwp C n a (fun e s' => match e with
    | .norm => cwp C n b Q s'
    | e => Q e s') s
  | .cond c a b, Q, s => match evalD s c with
    | some (.p (.bool t)) => IfGoal t (cwp C n a Q) (cwp C n b Q) s
    | _ => False
  | .block id c, Q, s => cwp C n c (fun e s' => match e with
    | .exit j => if j = id then Q .norm s' else Q (.exit j) s'
    | e => Q e s') s
  | .loop c, Q, s0 => ∃ (I : Nat → St → Prop) (m : Nat), Start I m s0 ∧ ∀ m s, I m s → cwp C n c (fun e s' => match e with
    | .norm => RoundEnd I s0.hp.length m s'
    | e => Q e s') s
  | .exit id, Q, s => Q (.exit id) s
  | .goto l, Q, s => Q (.goto l) s
  | .ret, Q, s => Q .ret s
  | _, _, _ => False
theorem dwp_mono {C n} : ∀ (c : Code) {Q Q' : DX → St → Prop} {s : St}, (∀ e s, Q e s → Q' e s) → dwp C n c Q s → dwp C n c Q' s
  | .skip, Q, Q', s, q, e => q _ _ e
  | .label _, Q, Q', s, q, e => q _ _ e
  | .exit id, Q, Q', s, q, e => q _ _ e
  | .goto l, Q, Q', s, q, e => q _ _ e
  | .ret, Q, Q', s, q, e => q _ _ e
  | .region id ops draw, Q, Q', s, q, e => by obtain ⟨s', h1, h2⟩ := e; exact ⟨s', h1, q _ _ h2⟩
  | .seq c d, Q, Q', s, q, e => by
    simp only [dwp] at e ⊢
    refine dwp_mono c (fun x s' h => ?_) e
    cases x <;> first | exact dwp_mono d q h | exact q _ _ h
  | .cond c x y, Q, Q', s, q, e => by
    simp only [dwp] at e ⊢
    split at e
    · exact ⟨fun t => dwp_mono x q (e.1 t), fun t => dwp_mono y q (e.2 t)⟩
    · exact e.elim
  | .block id c, Q, Q', s, q, e => by
    simp only [dwp] at e ⊢
    refine dwp_mono c (fun x s' h => ?_) e
    cases x with
    | exit i =>
      dsimp only at h ⊢
      split
      · rename_i hi; rw [if_pos hi] at h; exact q _ _ h
      · rename_i hi; rw [if_neg hi] at h; exact q _ _ h
    | _ => exact q _ _ h
  | .loop c, Q, Q', s, q, e => by
    simp only [dwp] at e ⊢
    obtain ⟨I, m, h1, h2⟩ := e
    refine ⟨I, m, h1, fun m s hI => dwp_mono c (fun x s' h => ?_) (h2 m s hI)⟩
    cases x <;> first | exact h | exact q _ _ h
  | .rangeFunc _ _ _ _, Q, Q', s, q, e => by simp [dwp] at e
  | .scope _, Q, Q', s, q, e => by simp [dwp] at e
  | .refuse _, Q, Q', s, q, e => by simp [dwp] at e
theorem cwp_to {C n} : ∀ (c : Code) {Q : DX → St → Prop} {s : St}, cwp C n c Q s → dwp C n c Q s
  | .skip, Q, s, e => e
  | .label _, Q, s, e => e
  | .exit id, Q, s, e => e
  | .goto l, Q, s, e => e
  | .ret, Q, s, e => e
  | .region id ops draw, Q, s, e => by
    cases draw with
    | false =>
      simp only [cwp, Bool.false_eq_true, if_false] at e
      obtain ⟨s', h1, h2⟩ := opsWp_to e
      exact ⟨s', by simpa [regionTo] using h1, h2⟩
    | true =>
      simp only [cwp, if_true] at e
      obtain ⟨s', h1, h2⟩ := drawWp_to e
      exact ⟨s', by simpa [regionTo] using h1, h2⟩
  | .seq c d, Q, s, e => by
    simp only [cwp] at e
    simp only [dwp]
    refine dwp_mono c (fun x s' h => ?_) (cwp_to c e)
    cases x <;> first | exact cwp_to d h | exact h
  | .cond c x y, Q, s, e => by
    simp only [cwp] at e
    simp only [dwp]
    split at e
    · rename_i t hc
      refine ⟨fun h => ?_, fun h => ?_⟩
      · rw [h, IfGoal_true] at e; exact cwp_to x e
      · rw [h, IfGoal_false] at e; exact cwp_to y e
    · exact e.elim
  | .block id c, Q, s, e => by simp only [cwp] at e; simp only [dwp]; exact cwp_to c e
  | .loop c, Q, s, e => by
    simp only [cwp] at e
    simp only [dwp]
    obtain ⟨I, m, h1, h2⟩ := e
    exact ⟨I, m, h1, fun m s hI => cwp_to c (h2 m s hI)⟩
  | .rangeFunc _ _ _ _, Q, s, e => by simp [cwp] at e
  | .scope _, Q, s, e => by simp [cwp] at e
  | .refuse _, Q, s, e => by simp [cwp] at e

theorem dcalls_body {P : Program} {W0 : World} {nb : Nat} {f : FuncId} {fn : Func} {c : Code} (hf : P.funcs[f]? = some fn) (hb : fn.body = some c) (hname : (fn.name == "runtime.NumGoroutine") = false) {args : List DV} {bs : List (List DV)} {r : DV} {bs' : List (List DV)}
    (k : Nat) (hk : fn.ntmps = k) (rv : Array ResultVar) (hr : fn.results = rv) (hn : args.length ≤ k)
    (h : cwp ⟨P, W0, nb⟩ k c (fun e s => match e with
      | .norm => ∃ s1, Gh bs.length s s1 ∧ ∃ rr m, resD P bs.length s1 rv.toList = some rr ∧ Wk rr r ∧ bs.length ≤ m ∧ m ≤ s1.hp.length ∧ bs' = s1.hp.take m ∧ (∀ i ∈ refsD r, i < m) ∧ (∀ b ∈ bs', ∀ i ∈ refsDs b, i < m) ∧ (isCell1 rv.toList = true → m = bs.length)
      | .ret => ∃ s1, Gh bs.length s s1 ∧ ∃ rr m, resD P bs.length s1 rv.toList = some rr ∧ Wk rr r ∧ bs.length ≤ m ∧ m ≤ s1.hp.length ∧ bs' = s1.hp.take m ∧ (∀ i ∈ refsD r, i < m) ∧ (∀ b ∈ bs', ∀ i ∈ refsDs b, i < m) ∧ (isCell1 rv.toList = true → m = bs.length)
      | _ => False) ⟨ini args, bs⟩) : DCalls ⟨P, W0, nb⟩ f args bs r bs' := by
  subst hk; subst hr
  refine dcalls_of_body hf hb hname hn ?_
  rw [ini_eq]
  refine dwp_mono _ (fun e s h => ?_) (cwp_to c h)
  cases e <;> first | exact ⟨trivial, h⟩ | exact h.elim

/-! ### for reckoning -/
theorem put_upd (s : St) (d : Nat) (v : DV) : s.put (some d) v = ⟨upd s.tm d v, s.hp⟩ := rfl
theorem put_none (s : St) (v : DV) : s.put none v = s := rfl
theorem kills_nil (s : St) : s.kills [] = s := by simp [St.kills]
theorem kills_cons (s : St) (t : Nat) (ts : List Nat) : s.kills (t :: ts) = (s.kills ts).put (some t) .un := by
  simp only [St.kills, St.put, St.mk.injEq, and_true]
  funext i
  by_cases h : i = t
  · subst h; simp
  · simp [h]
end Go.Proofs.Dm
