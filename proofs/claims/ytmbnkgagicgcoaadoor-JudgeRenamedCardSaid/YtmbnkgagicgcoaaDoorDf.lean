/- Part of the proof: contracts of the functions, walked by the D-machine. No condition. -/
import Derived.Test.YtmbnkgagicgcoaaDoorDe
import Derived.Deep.LoopGhost
set_option linter.unusedVariables false
set_option linter.unusedSimpArgs false
namespace Go.Proofs.Dm
open Go Go.RowKit

/-! ### Which loads and moves take a slice of the call's own out of its place: those whose slot is only handed on -/
def handsOn (t : Tmp) (o : Oper) : Bool :=
  if o.op.operands.any (isTmp t) then
    match o.op with
    | .assign _ => true
    | .store _ a _ => !(isTmp t a)
    | .build _ _ => true
    | .buildSlice _ _ _ => true
    | .call c => match c.callee, c.args.toList with
      | .builtin .append, [x, y] => isTmp t x && !(isTmp t y)
      | _, _ => false
    | _ => false
  else true
def takes (ops : List Oper) (o : Oper) : Bool :=
  match o.dst with
  | some t => ops.all (handsOn t) && ops.any (fun q => q.op.operands.any (isTmp t))
  | none => false

/-- Is an operation carried out? -/
def guardD (ops : Array Oper) (o : Oper) (s : St) : Option Bool :=
  match o.guard with
  | none => some true
  | some (j, want) => match (ops[j]?).bind (·.dst) with
    | some t => match s.tm t with
      | .p (.bool b) => some (b == want)
      | .ud => some false
      | _ => none
    | none => none

theorem guardD_ok {C w0 h0 ow0 r0 n s a w h ow ρ} (r : Rel C w0 h0 ow0 r0 n s a w h ow ρ) {ops : Array Oper} {o : Oper} {b : Bool} (e : guardD ops o s = some b) : Region.wanted o (yielded ops a.tmps) = b := by
  unfold guardD at e
  unfold Region.wanted
  split at e
  · rename_i hg; injection e with e; subst e; rw [hg]
  · rename_i j want hg
    rw [hg]
    split at e
    · rename_i t ht
      split at e
      · rename_i b' hb
        injection e with e; subst e
        have := r.tm t
        rw [hb] at this
        simp only [RepD, Rep] at this
        have hlt : t < n := by
          rcases Nat.lt_or_ge t n with q | q
          · exact q
          · rw [r.dom t q] at hb; cases hb
        have hget : a.tmps[t]? = some (.bool b') := by
          have hl : t < a.tmps.size := by rw [r.size]; exact hlt
          rw [Array.getD_eq_getD_getElem?, Array.getElem?_eq_getElem hl] at this
          rw [Array.getElem?_eq_getElem hl]
          simpa using this
        simp only [yielded, ht, Option.bind_some, hget]
        cases b' <;> cases want <;> rfl
      · rename_i hb
        injection e with e; subst e
        have := r.tm t
        rw [hb] at this
        simp only [RepD] at this
        have hlt : t < n := by
          rcases Nat.lt_or_ge t n with q | q
          · exact q
          · rw [r.dom t q] at hb; cases hb
        have hget : a.tmps[t]? = some undef := by
          have hl : t < a.tmps.size := by rw [r.size]; exact hlt
          rw [Array.getD_eq_getD_getElem?, Array.getElem?_eq_getElem hl] at this
          rw [Array.getElem?_eq_getElem hl]
          simpa using this
        simp only [yielded, ht, Option.bind_some, hget]
        cases want <;> rfl
      · cases e
    · cases e

/-- One operation, whatever it is. -/
def opTo (C : Ctx) (n : Nat) (tk : Bool) (o : Oper) (s s' : St) : Prop :=
  match o.op with
  | .call c => match c.callee with
    | .value x => callTo C n o c x s s'
    | _ => stepD C.P n tk o s = some s'
  | _ => stepD C.P n tk o s = some s'
theorem opTo_ok {C w0 h0 ow0 r0 n tk o s s'} (e : opTo C n tk o s s') : StepOK C w0 h0 ow0 r0 n o s s' := by
  unfold opTo at e
  split at e
  · rename_i c hop
    split at e
    · rename_i x hc; exact callTo_ok hop hc e
    · exact stepD_ok e
  · exact stepD_ok e

/-- The operations of a statement, one behind the other. -/
def opsTo (C : Ctx) (n : Nat) (ops : Array Oper) : List Oper → St → St → Prop
  | [], s, s' => s = s'
  | o :: rest, s, s' => ∃ g, guardD ops o s = some g ∧ dstOk n o.dst = true ∧ ∃ s1, (if g then opTo C n (takes ops.toList o) o s s1 else s1 = s.put o.dst .ud) ∧ opsTo C n ops rest s1 s'

theorem opsTo_ok {C w0 h0 ow0 r0 n} {ops : Array Oper} {Q : Exit → Act → World → Prop} : ∀ (l : List Oper) (s s' : St), opsTo C n ops l s s' → (Good C w0 h0 ow0 r0 n s' (Q .normal)) →
    Good C w0 h0 ow0 r0 n s (fun a w => wpList C.P ops Q l a w)
  | [], s, s', e, hK => by
    simp only [opsTo] at e; subst e
    intro a w h ow ρ r
    exact hK a w h ow ρ r
  | o :: rest, s, s', e, hK => by
    obtain ⟨g, hg, hd, s1, h1, h2⟩ := e
    have ih := opsTo_ok rest s1 s' h2 hK
    intro a w h ow ρ r
    have hw := guardD_ok r hg
    unfold wpList
    cases g with
    | true =>
      rw [if_pos hw]
      simp only [if_true] at h1
      exact .inl (opTo_ok h1 a w h ow ρ r _ Q ih)
    | false =>
      rw [if_neg (by rw [hw]; simp)]
      simp only [Bool.false_eq_true, if_false] at h1
      subst h1
      exact ih _ _ _ _ _ (r.put o.dst hd fun O => by simp only [RepD])

end Go.Proofs.Dm

set_option linter.unusedVariables false
set_option linter.unusedSimpArgs false
namespace Go.Proofs.Dm
open Go Go.RowKit

def upd (t : Nat → DV) (d : Nat) (v : DV) : Nat → DV := fun i => if i = d then v else t i
theorem upd_same (t : Nat → DV) (d : Nat) (v : DV) : upd t d v d = v := by simp [upd]
theorem upd_ne (t : Nat → DV) (d i : Nat) (v : DV) (h : (i == d) = false) : upd t d v i = t i := by simp [upd]; intro e; simp [e] at h
def ini : List DV → Nat → DV
  | [], _ => .un
  | a :: _, 0 => a
  | _ :: as, n + 1 => ini as n
theorem ini_eq : ∀ (l : List DV), (fun i => l.getD i .un) = ini l
  | [] => by funext i; simp [ini]
  | a :: as => by
    funext i
    cases i with
    | zero => simp [ini]
    | succ n =>
      have := congrFun (ini_eq as) n
      simp only [ini, ← this]
      simp

/-- A test: which way is gone. -/
def IfGoal (t : Bool) (a b : St → Prop) (s : St) : Prop := if t = true then a s else b s
theorem IfGoal_true (a b : St → Prop) (s : St) : IfGoal true a b s = a s := by simp [IfGoal]
theorem IfGoal_false (a b : St → Prop) (s : St) : IfGoal false a b s = b s := by simp [IfGoal]
theorem IfGoal.intro {t : Bool} {a b : St → Prop} {s : St} (h1 : t = true → a s) (h2 : t = false → b s) : IfGoal t a b s := by
  cases t
  · rw [IfGoal_false]; exact h2 rfl
  · rw [IfGoal_true]; exact h1 rfl
/-- A call: what it comes to must be known. -/
def CallGoal (C : Ctx) (f : FuncId) (a : List DV) (sub : List (List DV)) (k : St → Prop) (s : St) (dst : Option Tmp) (gone : List Tmp) (ids : List Nat) : Prop :=
  ∃ args r bs', Wks a args ∧ DCalls C f args sub r bs' ∧ k (afterCall s dst gone ids r bs')
theorem CallGoal.intro {C : Ctx} {f : FuncId} {a : List DV} {sub : List (List DV)} {k : St → Prop} {s : St} {dst : Option Tmp} {gone : List Tmp} {ids : List Nat} {args r bs'}
    (hd : DCalls C f args sub r bs') (hw : Wks a args) (hk : k (afterCall s dst gone ids r bs')) : CallGoal C f a sub k s dst gone ids := ⟨args, r, bs', hw, hd, hk⟩
def nodupB : List Nat → Bool
  | [] => true
  | x :: xs => !(xs.contains x) && nodupB xs
theorem nodupB_spec : ∀ {l : List Nat}, nodupB l = true → l.Nodup
  | [], _ => List.nodup_nil
  | x :: xs, h => by
    simp only [nodupB, Bool.and_eq_true, Bool.not_eq_true'] at h
    exact List.nodup_cons.2 ⟨by intro hm; have := h.1; simp [hm] at this, nodupB_spec h.2⟩
def callPrep2 (hp : List (List DV)) (f : FuncId) (dc : List DV) (gone : List Tmp) (ids : List Nat) : Option (FuncId × List DV × List Nat × List (List DV) × List Tmp) :=
  match subHp hp ids with
  | some sub => if closedIn ids (boxRefs hp ids) && nodupB ids then some (f, mapRefs (idxIn ids) dc, ids, sub.map (mapRefs (idxIn ids)), gone) else none
  | none => none
def callPrep (s : St) (x : Operand) (args : List Operand) : Option (FuncId × List DV × List Nat × List (List DV) × List Tmp) :=
  match calleeD s x, argsD s args args with
  | some (f, cap), some ds => callPrep2 s.hp f (ds ++ cap) (given s args) (reach s.hp (ds ++ cap))
  | _, _ => none
/-- What has been done is handed on. -/
def opWp (C : Ctx) (n : Nat) (tk : Bool) (o : Oper) (k : St → Prop) (s : St) : Prop :=
  match o.op with
  | .call c => match c.callee with
    | .value x => match callPrep s x c.args.toList with
      | some (f, a, ids, sub, gone) => CallGoal C f a sub k s o.dst gone ids
      | none => False
    | _ => match stepD C.P n tk o s with
      | some s' => k s'
      | none => False
  | _ => match stepD C.P n tk o s with
    | some s' => k s'
    | none => False
theorem opWp_to {C n tk o k s} (hd : dstOk n o.dst = true) (e : opWp C n tk o k s) : ∃ s', opTo C n tk o s s' ∧ k s' := by
  unfold opWp at e
  unfold opTo
  cases hop : o.op with
  | call c =>
    rw [hop] at e
    dsimp only at e ⊢
    cases hc : c.callee with
    | value x =>
      rw [hc] at e
      dsimp only at e ⊢
      split at e
      · rename_i f a ids sub gone hp
        obtain ⟨args, r, bs', hw, hdc, hk⟩ := e
        unfold callPrep at hp
        split at hp
        · rename_i f' cap ds h1 h2
          unfold callPrep2 at hp
          split at hp
          · rename_i sub' h3
            split at hp
            · rename_i h4
              simp only [Bool.and_eq_true] at h4
              simp only [Option.some.injEq, Prod.mk.injEq] at hp
              obtain ⟨rfl, rfl, rfl, rfl, rfl⟩ := hp
              exact ⟨_, ⟨hd, f', cap, ds, sub', args, r, bs', h1, h2, h3, h4.1, nodupB_spec h4.2, hw, hdc, rfl⟩, hk⟩
            · cases hp
          · cases hp
        · cases hp
      · exact e.elim
    | _ =>
      rw [hc] at e
      dsimp only at e ⊢
      split at e
      · rename_i s' hs
        exact ⟨s', hs, e⟩
      · exact e.elim
  | _ =>
    rw [hop] at e
    dsimp only at e ⊢
    split at e
    · rename_i s' hs
      exact ⟨s', hs, e⟩
    · exact e.elim
def opsWp (C : Ctx) (n : Nat) (ops : List Oper) : List Oper → (St → Prop) → St → Prop
  | [], k, s => k s
  | o :: rest, k, s => match o.guard with
    | none => dstOk n o.dst = true ∧ opWp C n (takes ops o) o (opsWp C n ops rest k) s
    | some (j, want) => match (ops[j]?).bind (·.dst) with
      | some t => match s.tm t with
        | .p (.bool b) => dstOk n o.dst = true ∧ IfGoal (b == want) (opWp C n (takes ops o) o (opsWp C n ops rest k)) (fun s => opsWp C n ops rest k (s.put o.dst .ud)) s
        | .ud => dstOk n o.dst = true ∧ opsWp C n ops rest k (s.put o.dst .ud)
        | _ => False
      | none => False
theorem opsWp_to {C n} {ops : List Oper} : ∀ {l : List Oper} {k s}, opsWp C n ops l k s → ∃ s', opsTo C n ops.toArray l s s' ∧ k s'
  | [], k, s, e => ⟨s, rfl, e⟩
  | o :: rest, k, s, e => by
    simp only [opsWp] at e
    simp only [opsTo]
    split at e
    · rename_i hg
      obtain ⟨hd, e⟩ := e
      obtain ⟨s1, h1, h2⟩ := opWp_to hd e
      obtain ⟨s', h3, h4⟩ := opsWp_to h2
      exact ⟨s', ⟨true, by simp [guardD, hg], hd, s1, by simpa using h1, h3⟩, h4⟩
    · rename_i j want hg
      split at e
      · rename_i t ht
        split at e
        · rename_i b hb
          obtain ⟨hd, e⟩ := e
          have hgd : guardD ops.toArray o s = some (b == want) := by
            simp only [guardD, hg, List.getElem?_toArray, ht, hb]
          rcases hbw : (b == want) with _ | _
          · rw [hbw, IfGoal_false] at e
            obtain ⟨s', h3, h4⟩ := opsWp_to e
            exact ⟨s', ⟨false, by rw [hgd, hbw], hd, _, by simp, h3⟩, h4⟩
          · rw [hbw, IfGoal_true] at e
            obtain ⟨s1, h1, h2⟩ := opWp_to hd e
            obtain ⟨s', h3, h4⟩ := opsWp_to h2
            exact ⟨s', ⟨true, by rw [hgd, hbw], hd, s1, by simpa using h1, h3⟩, h4⟩
        · rename_i hb
          obtain ⟨hd, e⟩ := e
          have hgd : guardD ops.toArray o s = some false := by
            simp only [guardD, hg, List.getElem?_toArray, ht, hb]
          obtain ⟨s', h3, h4⟩ := opsWp_to e
          exact ⟨s', ⟨false, hgd, hd, _, by simp, h3⟩, h4⟩
        · exact e.elim
      · exact e.elim
end Go.Proofs.Dm

set_option linter.unusedVariables false
set_option linter.unusedSimpArgs false
namespace Go.Proofs.Dm
open Go Go.RowKit

/-- A slot and perhaps a box are given other contents. -/
def setO (hp : List (List DV)) : Option (Nat × List DV) → List (List DV)
  | none => hp
  | some (i, b) => hp.set i b
def mu (dx : Nat) (v : DV) (ib : Option (Nat × List DV)) (s : St) : St := ⟨upd s.tm dx v, setO s.hp ib⟩
theorem setO_len (hp : List (List DV)) (ib) : (setO hp ib).length = hp.length := by cases ib <;> simp [setO]
def offBox (ib : Option (Nat × List DV)) (i : Nat) : Prop := ∀ j b, ib = some (j, b) → j ≠ i
theorem setO_get {hp : List (List DV)} {ib} {i : Nat} (h : offBox ib i) : (setO hp ib)[i]? = hp[i]? := by
  cases ib with
  | none => rfl
  | some p => obtain ⟨j, b⟩ := p; simp only [setO]; rw [List.getElem?_set_ne (h j b rfl)]
theorem setO_set {hp : List (List DV)} {ib} {i : Nat} {b : List DV} (h : offBox ib i) : (setO hp ib).set i b = setO (hp.set i b) ib := by
  cases ib with
  | none => rfl
  | some p => obtain ⟨j, c⟩ := p; simp only [setO]; exact List.set_comm _ _ (h j c rfl)
theorem setO_append {hp : List (List DV)} {ib} {bs : List (List DV)} (h : ∀ j b, ib = some (j, b) → j < hp.length) : setO hp ib ++ bs = setO (hp ++ bs) ib := by
  cases ib with
  | none => rfl
  | some p => obtain ⟨j, c⟩ := p; simp only [setO]; rw [List.set_append_left _ _ (h j c rfl)]

def looksD (o : Oper) : List Tmp := o.op.operands.toList.filterMap fun | .tmp t => some t | _ => none
theorem evalD_mu {dx v ib s} {x : Operand} (h : x ≠ .tmp dx) : evalD (mu dx v ib s) x = evalD s x := by
  cases x with
  | tmp t =>
    have : t ≠ dx := fun e => h (by rw [e])
    simp [evalD, mu, upd, this]
  | const c => rfl
  | global g => rfl
  | func f => rfl
theorem put_mu {dx v ib s} {d : Option Tmp} {u : DV} (h : d ≠ some dx) : (mu dx v ib s).put d u = mu dx v ib (s.put d u) := by
  cases d with
  | none => rfl
  | some d =>
    have : d ≠ dx := fun e => h (by rw [e])
    simp only [mu, St.put, upd, St.mk.injEq, and_true]
    funext i
    by_cases h1 : i = d
    · subst h1; simp [this, upd]
    · by_cases h2 : i = dx
      · subst h2; simp [h1, upd]
      · simp [h1, h2, upd]
theorem tm_mu {dx v ib s} {t : Nat} (h : t ≠ dx) : (mu dx v ib s).tm t = s.tm t := by simp [mu, upd, h]
theorem hp_mu {dx v ib s} : (mu dx v ib s).hp = setO s.hp ib := rfl

theorem mapD_congr {ev ev' : Operand → Option DV} : ∀ {xs : List Operand}, (∀ x ∈ xs, ev x = ev' x) → mapD ev xs = mapD ev' xs
  | [], _ => rfl
  | x :: xs, h => by simp only [mapD, h x (by simp), mapD_congr (xs := xs) (fun y hy => h y (by simp [hy]))]
theorem optInt_congr {ev ev' : Operand → Option DV} {n : Int} {x : Option Operand} (h : ∀ y ∈ x, ev y = ev' y) : optInt ev n x = optInt ev' n x := by
  cases x with
  | none => rfl
  | some y => simp only [optInt, h y (by simp)]
theorem callD_congr {P : Program} {ev ev' : Operand → Option DV} {c : Call} (h : ∀ x ∈ c.operands.toList, ev x = ev' x) : callD P ev c = callD P ev' c := by
  obtain ⟨callee, args, types⟩ := c
  have ha : ∀ x ∈ args.toList, ev x = ev' x := fun x hx => h x (by simp only [Call.operands, Array.toList_append, List.mem_append]; exact .inr hx)
  unfold callD
  split
  · split
    · rename_i x t hx _
      rw [ha x (by dsimp only at hx; rw [hx]; simp)]
    · rfl
  · split
    · rename_i x y hx
      rw [ha x (by dsimp only at hx; rw [hx]; simp), ha y (by dsimp only at hx; rw [hx]; simp)]
    · rfl
  · split
    · rename_i x y hx
      rw [ha x (by dsimp only at hx; rw [hx]; simp), ha y (by dsimp only at hx; rw [hx]; simp)]
    · rfl
  · rfl
theorem pureD_congr {P : Program} {ev ev' : Operand → Option DV} {op : Op} (h : ∀ x ∈ op.operands.toList, ev x = ev' x) : pureD P ev op = pureD P ev' op := by
  cases op with
  | pick c a b => simp only [pureD, h c (by simp [Op.operands]), h a (by simp [Op.operands]), h b (by simp [Op.operands])]
  | nilCheck x => simp only [pureD, h x (by simp [Op.operands])]
  | binOp op t x y yt => simp only [pureD, h x (by simp [Op.operands]), h y (by simp [Op.operands])]
  | unOp op t x => cases op <;> simp only [pureD, h x (by simp [Op.operands])]
  | field t x i => simp only [pureD, h x (by simp [Op.operands])]
  | fieldAddr t x i => simp only [pureD, h x (by simp [Op.operands])]
  | indexAddr t x y => simp only [pureD, h x (by simp [Op.operands]), h y (by simp [Op.operands])]
  | index t x y => simp only [pureD, h x (by simp [Op.operands]), h y (by simp [Op.operands])]
  | slice t x lo hi mx =>
    cases mx with
    | some m =>
      simp only [pureD, slice3D, h x (by simp [Op.operands])]
      have e1 : ∀ n, optInt ev n lo = optInt ev' n lo := fun n => optInt_congr fun y hy => h y (by
        simp only [Option.mem_def] at hy; subst hy; simp [Op.operands])
      have e2 : ∀ n, optInt ev n hi = optInt ev' n hi := fun n => optInt_congr fun y hy => h y (by
        simp only [Option.mem_def] at hy; subst hy; simp [Op.operands])
      have e3 : ∀ n, optInt ev n (some m) = optInt ev' n (some m) := fun n => optInt_congr fun y hy => h y (by
        simp only [Option.mem_def] at hy; injection hy with hy; subst hy; simp [Op.operands])
      simp only [e1, e2, e3]
    | none =>
      simp only [pureD, sliceD, h x (by simp [Op.operands])]
      have e1 : ∀ n, optInt ev n lo = optInt ev' n lo := fun n => optInt_congr fun y hy => h y (by
        simp only [Option.mem_def] at hy; subst hy; simp [Op.operands])
      have e2 : ∀ n, optInt ev n hi = optInt ev' n hi := fun n => optInt_congr fun y hy => h y (by
        simp only [Option.mem_def] at hy; subst hy; simp [Op.operands])
      simp only [e1, e2]
  | convert s d x => simp only [pureD, h x (by simp [Op.operands])]
  | extract x i => simp only [pureD, h x (by simp [Op.operands])]
  | makeFunc f first cap =>
    cases f <;> simp only [pureD]
    split
    · rw [mapD_congr fun x hx => h x (by simp only [Op.operands, Array.toList_append, List.mem_append]; exact .inr hx)]
    · rfl
  | call c => simp only [pureD]; exact callD_congr (by simpa only [Op.operands] using h)
  | _ => simp only [pureD]

theorem mem_looks {o : Oper} {t : Tmp} : t ∈ looksD o ↔ (.tmp t : Operand) ∈ o.op.operands.toList := by
  simp only [looksD, List.mem_filterMap]
  constructor
  · rintro ⟨x, hx, e⟩
    cases x <;> simp at e
    subst e; exact hx
  · intro h; exact ⟨_, h, rfl⟩
theorem ev_mu {dx v ib s} {o : Oper} (h : dx ∉ looksD o) : ∀ x ∈ o.op.operands.toList, evalD (mu dx v ib s) x = evalD s x :=
  fun x hx => evalD_mu fun e => h (mem_looks.2 (by rw [← e]; exact hx))

theorem moveD_mu {P tk o x dx v ib s s'} (hl : dx ∉ looksD o) (hd : o.dst ≠ some dx) (hx : x ∈ o.op.operands.toList) (e : moveD P tk o x s = some s') : moveD P tk o x (mu dx v ib s) = some (mu dx v ib s') := by
  unfold moveD at e ⊢
  split at e
  · rename_i t
    have ht : t ≠ dx := fun q => hl (mem_looks.2 (by rw [← q]; exact hx))
    rw [tm_mu ht]
    split at e
    · rename_i ho
      rw [if_pos ho]
      split at e
      · rename_i htk
        rw [if_pos htk]
        split at e
        · rename_i d hdst
          injection e with e; subst e
          have : (some t : Option Tmp) ≠ some dx := fun q => ht (by injection q)
          rw [put_mu this, put_mu (by rw [← hdst]; exact hd)]
        · cases e
      · rename_i htk
        rw [if_neg htk]
        injection e with e; subst e
        rw [put_mu hd]
    · rename_i ho
      rw [if_neg ho]
      injection e with e; subst e
      rw [put_mu hd]
  · rename_i hx'
    have := evalD_mu (dx := dx) (v := v) (ib := ib) (s := s) (x := x) (fun q => hx' dx q)
    split at e
    · rename_i d he
      injection e with e; subst e
      rw [this, he]
      simp only [put_mu hd]
    · cases e

theorem newhp_mu {dx v ib s} {d : Option Tmp} {u : DV} {bs : List (List DV)} (hd : d ≠ some dx) (hb : ∀ j b, ib = some (j, b) → j < s.hp.length) :
    ({ (mu dx v ib s).put d u with hp := (mu dx v ib s).hp ++ bs } : St) = mu dx v ib { s.put d u with hp := s.hp ++ bs } := by
  rw [put_mu hd]
  simp only [mu, St.mk.injEq, true_and]
  rw [setO_append hb]

theorem allocD_mu {P o t dx v ib s s'} (hd : o.dst ≠ some dx) (hb : ∀ j b, ib = some (j, b) → j < s.hp.length) (e : allocD P o t s = some s') : allocD P o t (mu dx v ib s) = some (mu dx v ib s') := by
  unfold allocD at e ⊢
  split at e
  · rename_i d box h1 h2
    injection e with e; subst e
    have : (mu dx v ib s).hp.length = s.hp.length := by rw [hp_mu, setO_len]
    rw [this]
    try dsimp only
    rw [newhp_mu (by rw [← h1]; exact hd) hb]
  · cases e
theorem boxD_mu {P o t x dx v ib s s'} (hx : x ≠ .tmp dx) (hd : o.dst ≠ some dx) (hb : ∀ j b, ib = some (j, b) → j < s.hp.length) (e : boxD P o t x s = some s') : boxD P o t x (mu dx v ib s) = some (mu dx v ib s') := by
  unfold boxD at e ⊢
  rw [evalD_mu hx]
  split at e
  · rename_i d u h1 h2
    split at e
    · rename_i cs h3
      injection e with e; subst e
      have : (mu dx v ib s).hp.length = s.hp.length := by rw [hp_mu, setO_len]
      try rw [h1, h2]
      try rw [this]
      try dsimp only
      try rw [h3]
      try dsimp only
      rw [newhp_mu (by rw [← h1]; exact hd) hb]
    · cases e
  · cases e

/-- The boxes that an operation (but a call) reads or writes. -/
def touchD (o : Oper) (s : St) : List Nat :=
  match o.op with
  | .load _ x => match evalD s x with
    | some (.ref id _) => [id]
    | _ => []
  | .store _ x _ => match evalD s x with
    | some (.ref id _) => [id]
    | _ => []
  | _ => []

theorem loadD_mu {P tk o t x dx v ib s s'} (hx : x ≠ .tmp dx) (hd : o.dst ≠ some dx) (hb : ∀ id off, evalD s x = some (.ref id off) → offBox ib id) (e : loadD P tk o t x s = some s') : loadD P tk o t x (mu dx v ib s) = some (mu dx v ib s') := by
  unfold loadD at e ⊢
  rw [evalD_mu hx]
  split at e
  · rename_i z g h1 h2
    try rw [h1, h2]
    try dsimp only
    split at e
    · rename_i id off h3
      try rw [h3]
      try dsimp only
      rw [hp_mu, setO_get (hb id off h3)]
      split at e
      · rename_i box h4
        try rw [h4]
        try dsimp only
        split at e
        · rename_i h5
          rw [if_pos h5]
          split at e
          · rename_i h6
            rw [if_pos h6]
            split at e
            · rename_i d u h7 h8
              injection e with e; subst e
              try rw [h7, h8]
              try dsimp only
              rw [put_mu (by rw [← h7]; exact hd)]
              simp only [mu, Option.some.injEq, St.mk.injEq, true_and]
              exact setO_set (hb id off h3)
            · cases e
          · rename_i h6
            rw [if_neg h6]
            obtain ⟨u, h7, h8⟩ := Option.map_eq_some_iff.1 e
            subst h8
            try rw [h7]
            simp only [Option.map_some, put_mu hd]
        · cases e
      · cases e
    · rename_i cs h3
      try rw [h3]
      try dsimp only
      split at e
      · rename_i h5
        rw [if_pos h5]
        obtain ⟨u, h7, h8⟩ := Option.map_eq_some_iff.1 e
        subst h8
        try rw [h7]
        simp only [Option.map_some, put_mu hd]
      · cases e
    · cases e
  · cases e

theorem storeD_mu {P o t x y dx v ib s s'} (hx : x ≠ .tmp dx) (hy : y ≠ .tmp dx) (hb : ∀ id off, evalD s x = some (.ref id off) → offBox ib id) (e : storeD P o t x y s = some s') : storeD P o t x y (mu dx v ib s) = some (mu dx v ib s') := by
  unfold storeD at e ⊢
  rw [evalD_mu hx, evalD_mu hy]
  split at e
  · rename_i z h1 h2
    try rw [h1, h2]
    try dsimp only
    split at e
    · rename_i id off u h3 h4
      try rw [h3, h4]
      try dsimp only
      rw [hp_mu, setO_get (hb id off h3)]
      split at e
      · rename_i cs box h5 h6
        try rw [h5, h6]
        try dsimp only
        split at e
        · rename_i h7
          rw [if_pos h7]
          split at e
          · rename_i h8
            rw [if_pos h8]
            split at e
            · rename_i ty
              injection e with e; subst e
              have : (some ty : Option Tmp) ≠ some dx := fun q => hy (by injection q with q; rw [q])
              try dsimp only
              rw [put_mu this]
              simp only [mu, Option.some.injEq, St.mk.injEq, true_and]
              exact setO_set (hb id off h3)
            · cases e
          · rename_i h8
            rw [if_neg h8]
            injection e with e; subst e
            simp only [mu, Option.some.injEq, St.mk.injEq, true_and]
            exact setO_set (hb id off h3)
        · cases e
      · cases e
    · cases e
  · cases e

theorem fillD_mu {dx v ib s} {pl : List (Nat × Nat)} : ∀ {parts : List (Nat × Operand)} {cells k}, (∀ p ∈ parts, p.2 ≠ .tmp dx) → fillD (mu dx v ib s) pl parts cells k = fillD s pl parts cells k
  | [], cells, k, h => rfl
  | (i, x) :: rest, cells, k, h => by
    simp only [fillD, evalD_mu (h (i, x) (by simp))]
    have ih := fun c k => fillD_mu (dx := dx) (v := v) (ib := ib) (s := s) (pl := pl) (parts := rest) (cells := c) (k := k) (fun p hp => h p (by simp [hp]))
    simp only [ih]
theorem buildD_mu {P o t dx v ib s s'} {parts : List (Nat × Operand)} (hp : ∀ p ∈ parts, p.2 ≠ .tmp dx) (hd : o.dst ≠ some dx) (hk : ∀ (pl : List (Nat × Nat)) zc cells ts off, fillD s pl parts zc none = some (cells, some (ts, off)) → ts ≠ dx)
    (e : buildD P o t parts s = some s') : buildD P o t parts (mu dx v ib s) = some (mu dx v ib s') := by
  unfold buildD at e ⊢
  split at e
  · rename_i d pl z h1 h2 h3
    try rw [h1, h2, h3]
    try dsimp only
    rw [fillD_mu hp]
    split at e
    · rename_i cells h4
      injection e with e; subst e
      try rw [h4]
      try dsimp only
      rw [put_mu (by rw [← h1]; exact hd)]
    · rename_i cells ts off h4
      injection e with e; subst e
      try rw [h4]
      try dsimp only
      have : (some ts : Option Tmp) ≠ some dx := fun q => hk pl z cells ts off h4 (by injection q)
      rw [put_mu this, put_mu (by rw [← h1]; exact hd)]
    · cases e
  · cases e
theorem rowsD_mu {P dx v ib s e z} : ∀ {parts : List (Nat × Operand)} {k}, (∀ p ∈ parts, p.2 ≠ .tmp dx) → rowsD P (mu dx v ib s) e z k parts = rowsD P s e z k parts
  | [], k, h => rfl
  | (i, x) :: rest, k, h => by
    simp only [rowsD, evalD_mu (h (i, x) (by simp)), rowsD_mu (parts := rest) (fun p hp => h p (by simp [hp]))]
theorem buildSliceD_mu {P o t len dx v ib s s'} {parts : List (Nat × Operand)} (hp : ∀ p ∈ parts, p.2 ≠ .tmp dx) (hd : o.dst ≠ some dx) (e : buildSliceD P o t len parts s = some s') :
    buildSliceD P o t len parts (mu dx v ib s) = some (mu dx v ib s') := by
  unfold buildSliceD at e ⊢
  split at e
  · rename_i el d h1 h2
    try rw [h1, h2]
    try dsimp only
    split at e
    · rename_i z zv h3 h4
      try rw [h3, h4]
      try dsimp only
      rw [rowsD_mu hp]
      split at e
      · rename_i rows h5
        try rw [h5]
        try dsimp only
        split at e
        · rename_i h6
          injection e with e; subst e
          rw [if_pos h6, put_mu (by rw [← h2]; exact hd)]
        · cases e
      · cases e
    · cases e
  · cases e
theorem appendD_mu {P o dx v ib s s'} {c : Call} (hl : ∀ x ∈ c.args.toList, x ≠ .tmp dx) (hd : o.dst ≠ some dx) (e : appendD P o c s = some s') : appendD P o c (mu dx v ib s) = some (mu dx v ib s') := by
  unfold appendD at e ⊢
  split at e
  · rename_i hc
    try rw [hc]
    try dsimp only
    split at e
    · rename_i x y t t' h1 h2
      try rw [h1, h2]
      try dsimp only
      have hx : x ≠ .tmp dx := hl x (by rw [h1]; simp)
      have hy : y ≠ .tmp dx := hl y (by rw [h1]; simp)
      split at e
      · rename_i el h3
        try rw [h3]
        try dsimp only
        split at e
        · rename_i z by_ zv d h4 h5 h6 h7
          try rw [h4, h5, h6, h7]
          try dsimp only
          have e1 : appBase P el z (mu dx v ib s) x = appBase P el z s x := by simp only [appBase, evalD_mu hx]
          have e2 : appMore z (mu dx v ib s) y = appMore z s y := by simp only [appMore, evalD_mu hy]
          rw [e1, e2]
          split at e
          · rename_i xs own? ys h8 h9
            try rw [h8, h9]
            try dsimp only
            split at e
            · rename_i h10
              injection e with e; subst e
              rw [if_pos h10]
              have : own? ≠ some dx := by
                intro q
                subst q
                unfold appBase at h8
                split at h8
                · split at h8
                  · rename_i ts
                    split at h8
                    · injection h8 with h8; injection h8 with _ h8; injection h8 with h8
                      exact hx (by rw [h8])
                    · cases h8
                  · cases h8
                · injection h8 with h8; injection h8 with _ h8; cases h8
                · cases h8
              rw [put_mu this, put_mu (by rw [← h7]; exact hd)]
            · cases e
          · cases e
        · cases e
      · cases e
    · cases e
  · cases e

/-- The boxes that are named by a builtin's arguments. -/
def argBoxes (s : St) : List Operand → List Nat
  | [] => []
  | x :: xs => (match evalD s x with
    | some (.arr id _ _ _) => [id]
    | _ => []) ++ argBoxes s xs
theorem argBoxes_mem {s : St} : ∀ {xs : List Operand} {x : Operand} {id off z n : Nat}, x ∈ xs → evalD s x = some (.arr id off z n) → id ∈ argBoxes s xs
  | y :: ys, x, id, off, z, n, hx, e => by
    simp only [argBoxes, List.mem_append]
    rcases List.mem_cons.1 hx with q | q
    · subst q; rw [e]; exact .inl (by simp)
    · exact .inr (argBoxes_mem q e)
theorem argBoxes_congr {s t : St} : ∀ {xs : List Operand}, (∀ x ∈ xs, evalD t x = evalD s x) → argBoxes t xs = argBoxes s xs
  | [], h => rfl
  | x :: xs, h => by simp only [argBoxes, h x (by simp), argBoxes_congr (xs := xs) (fun y hy => h y (by simp [hy]))]
theorem needA_congr {s t : St} {c : Call} (h : ∀ x ∈ c.args.toList, evalD t x = evalD s x) : needA t c = needA s c := by
  unfold needA
  split
  · rename_i x y hx
    rw [h x (by rw [hx]; simp), h y (by rw [hx]; simp)]
  · rfl
theorem makeSliceD_mu {P o t l c dx v ib s s'} (hl : l ≠ .tmp dx) (hc : c ≠ .tmp dx) (hd : o.dst ≠ some dx) (hb : ∀ j b, ib = some (j, b) → j < s.hp.length) (e : makeSliceD P o t l c s = some s') : makeSliceD P o t l c (mu dx v ib s) = some (mu dx v ib s') := by
  unfold makeSliceD at e ⊢
  rw [evalD_mu hl, evalD_mu hc]
  split at e
  · rename_i el d k1 nn k2 nn' h1 h2 h3 h4
    try rw [h1, h2, h3, h4]
    try dsimp only
    split at e
    · rename_i z by_ zc h5 h6 h7
      try rw [h5, h6, h7]
      try dsimp only
      split at e
      · rename_i h8
        rw [if_pos h8]
        injection e with e; subst e
        have : (mu dx v ib s).hp.length = s.hp.length := by rw [hp_mu, setO_len]
        rw [this]
        rw [newhp_mu (by rw [← h2]; exact hd) hb]
      · cases e
    · cases e
  · cases e
theorem srcC_mu {z dx v ib s y src m} (hy : y ≠ .tmp dx) (hb : ∀ id off z n, evalD s y = some (.arr id off z n) → offBox ib id) (e : srcC z s y = some (src, m)) : srcC z (mu dx v ib s) y = some (src, m) := by
  unfold srcC at e ⊢
  rw [evalD_mu hy]
  split at e
  · rename_i id off z' n h1
    try rw [h1]
    try dsimp only
    rw [hp_mu, setO_get (hb id off z' n h1)]
    exact e
  · exact e
  · exact e
  · cases e
theorem clearD_mu {P o dx v ib s s'} {c : Call} (hl : ∀ x ∈ c.args.toList, x ≠ .tmp dx) (hd : o.dst ≠ some dx) (hb : ∀ i ∈ argBoxes s c.args.toList, offBox ib i) (e : clearD P o c s = some s') : clearD P o c (mu dx v ib s) = some (mu dx v ib s') := by
  unfold clearD at e ⊢
  split at e
  · rename_i x t h1 h2
    try rw [h1, h2]
    try dsimp only
    have hx : x ≠ .tmp dx := hl x (by rw [h1]; simp)
    split at e
    · rename_i el h3
      try rw [h3]
      try dsimp only
      rw [evalD_mu hx]
      split at e
      · rename_i z zc id off z' n h4 h4' h5
        try rw [h4, h4', h5]
        try dsimp only
        have hoid : offBox ib id := hb id (argBoxes_mem (by rw [h1]; simp) h5)
        split at e
        · rename_i box h6
          rw [hp_mu, setO_get hoid, h6]
          dsimp only
          split at e
          · rename_i h8
            rw [if_pos h8]
            injection e with e; subst e
            rw [put_mu hd]
          rename_i h80
          rw [if_neg h80]
          split at e
          · rename_i h8
            rw [if_pos h8]
            injection e with e; subst e
            have : ∀ (b : List DV) (u : DV), ({ mu dx v ib s with hp := (setO s.hp ib).set id b } : St).put o.dst u = mu dx v ib (({ s with hp := s.hp.set id b } : St).put o.dst u) := by
              intro b u
              rw [← put_mu hd]
              simp only [mu]
              rw [setO_set hoid]
            rw [this]
          · cases e
        · cases e
      · cases e
    · cases e
  · cases e
theorem copyD_mu {P o dx v ib s s'} {c : Call} (hl : ∀ x ∈ c.args.toList, x ≠ .tmp dx) (hd : o.dst ≠ some dx) (hb : ∀ i ∈ argBoxes s c.args.toList, offBox ib i) (e : copyD P o c s = some s') : copyD P o c (mu dx v ib s) = some (mu dx v ib s') := by
  unfold copyD at e ⊢
  split at e
  · rename_i x y t t' h1 h2
    try rw [h1, h2]
    try dsimp only
    have hx : x ≠ .tmp dx := hl x (by rw [h1]; simp)
    have hy : y ≠ .tmp dx := hl y (by rw [h1]; simp)
    split at e
    · rename_i el h3
      try rw [h3]
      try dsimp only
      rw [evalD_mu hx]
      split at e
      · rename_i z id off z' n h4 h5
        try rw [h4, h5]
        try dsimp only
        have hoid : offBox ib id := hb id (argBoxes_mem (by rw [h1]; simp) h5)
        split at e
        · rename_i box src m h6 h7
          rw [hp_mu, setO_get hoid, h6, srcC_mu hy (fun id' off' z2 n2 q => hb id' (argBoxes_mem (by rw [h1]; simp) q)) h7]
          dsimp only
          split at e
          · rename_i h8
            rw [if_pos h8]
            injection e with e; subst e
            rw [put_mu hd]
          rename_i h80
          rw [if_neg h80]
          split at e
          · rename_i h8
            rw [if_pos h8]
            injection e with e; subst e
            have : ∀ (b : List DV) (u : DV), ({ mu dx v ib s with hp := (setO s.hp ib).set id b } : St).put o.dst u = mu dx v ib (({ s with hp := s.hp.set id b } : St).put o.dst u) := by
              intro b u
              rw [← put_mu hd]
              simp only [mu]
              rw [setO_set hoid]
            rw [this]
          · cases e
        · cases e
      · cases e
    · cases e
  · cases e
theorem appendB_mu {e z by_ d x y dx v ib s s'} (hx : x ≠ .tmp dx) (hy : y ≠ .tmp dx) (hd : d ≠ dx) (hbx : ∀ id off z n, evalD s x = some (.arr id off z n) → offBox ib id) (hby : ∀ id off z n, evalD s y = some (.arr id off z n) → offBox ib id)
    (hl : ∀ j b, ib = some (j, b) → j < s.hp.length) (q : appendB e z by_ d x y s = some s') : appendB e z by_ d x y (mu dx v ib s) = some (mu dx v ib s') := by
  have hdd : (some d : Option Tmp) ≠ some dx := fun q => hd (by injection q)
  have hlen : (mu dx v ib s).hp.length = s.hp.length := by rw [hp_mu, setO_len]
  unfold appendB at q ⊢
  rw [evalD_mu hx]
  split at q
  · rename_i e' z' src m h1 h2
    rw [srcC_mu hy hby h2]
    try rw [h1]
    try dsimp only
    split at q
    · rename_i ts
      split at q
      · rename_i h3
        try dsimp only
        rw [if_pos h3]
        injection q with q; subst q
        have hts : (some ts : Option Tmp) ≠ some dx := fun q => hx (by injection q with q; rw [q])
        rw [hlen, put_mu hts, put_mu hdd]
        simp only [mu]
        rw [setO_append hl]
      · cases q
    · cases q
  · rename_i e' z' src m h1 h2
    rw [srcC_mu hy hby h2]
    try rw [h1]
    try dsimp only
    split at q
    · rename_i ts
      split at q
      · rename_i h3
        try dsimp only
        rw [if_pos h3]
        injection q with q; subst q
        have hts : (some ts : Option Tmp) ≠ some dx := fun q => hx (by injection q with q; rw [q])
        rw [hlen, put_mu hts, put_mu hdd]
        simp only [mu]
        rw [setO_append hl]
      · cases q
    · cases q
  · rename_i id off z' n src m h1 h2
    rw [srcC_mu hy hby h2]
    try rw [h1]
    try dsimp only
    have ho := hbx id off z' n h1
    rw [hp_mu, setO_get ho]
    split at q
    · rename_i box h3
      split at q
      · rename_i h4
        rw [if_pos h4]
        injection q with q; subst q
        have : (mu dx v ib s).put (some d) (.arr (setO s.hp ib).length 0 z (n + m)) = mu dx v ib (s.put (some d) (.arr s.hp.length 0 z (n + m))) := by rw [setO_len, put_mu hdd]
        rw [this]
        simp only [mu]
        rw [setO_set ho, setO_append (fun j b hj => by simpa using hl j b hj)]
      · cases q
    · cases q
  · rename_i z' xs src m h1 h2
    rw [srcC_mu hy hby h2]
    try rw [h1]
    try dsimp only
    have hm : appMore z (mu dx v ib s) y = appMore z s y := by simp only [appMore, evalD_mu hy]
    rw [hm]
    split at q
    · rename_i h3
      rw [if_pos h3]
      injection q with q; subst q
      rw [hlen, put_mu hdd]
      simp only [mu]
      rw [setO_append hl]
    · rename_i h3
      rw [if_neg h3]
      split at q
      · rename_i ys h4
        split at q
        · rename_i h5
          rw [if_pos h5]
          injection q with q; subst q
          rw [put_mu hdd]
        · cases q
      · cases q
  · cases q
theorem appendA_mu {P o dx v ib s s'} {c : Call} (hl : ∀ x ∈ c.args.toList, x ≠ .tmp dx) (hd : o.dst ≠ some dx) (hb : ∀ i ∈ argBoxes s c.args.toList, offBox ib i) (hib : ∀ j b, ib = some (j, b) → j < s.hp.length) (e : appendA P o c s = some s') : appendA P o c (mu dx v ib s) = some (mu dx v ib s') := by
  unfold appendA at e ⊢
  split at e
  · rename_i x y t t' d h1 h2 h3
    try rw [h1, h2, h3]
    try dsimp only
    split at e
    · rename_i el h4
      try rw [h4]
      try dsimp only
      split at e
      · rename_i z by_ zv h5 h6 h7
        try rw [h5, h6, h7]
        try dsimp only
        split at e
        · rename_i h8
          rw [if_pos h8]
          exact appendB_mu (hl x (by rw [h1]; simp)) (hl y (by rw [h1]; simp)) (fun q => hd (by rw [h3, q])) (fun id off z n q => hb id (argBoxes_mem (by rw [h1]; simp) q)) (fun id off z n q => hb id (argBoxes_mem (by rw [h1]; simp) q)) hib e
        · cases e
      · cases e
    · cases e
  · cases e
end Go.Proofs.Dm
