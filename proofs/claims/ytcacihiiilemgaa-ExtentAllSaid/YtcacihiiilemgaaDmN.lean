/- The D-machine, part N: the same, to be reckoned with. -/
import Derived.Test.YtcacihiiilemgaaDmM
set_option linter.unusedVariables false
set_option linter.unusedSimpArgs false
namespace Go.Proofs.Dm
open Go Go.RowKit

def upd (t : Nat → DV) (d : Nat) (v : DV) : Nat → DV := fun i => if i = d then v else t i
theorem upd_same (t : Nat → DV) (d : Nat) (v : DV) : upd t d v d = v := by simp [upd]
theorem upd_ne (t : Nat → DV) (d i : Nat) (v : DV) (h : (i == d) = false) : upd t d v i = t i := by simp [upd]; intro e; simp [e] at h
def ini : List DV → Nat → DV
  | [], _ => .un
  | a :: _, 0 => a
  | _ :: as, n + 1 => ini as n
theorem ini_eq : ∀ (l : List DV), (fun i => l.getD i .un) = ini l
  | [] => by funext i; simp [ini]
  | a :: as => by
    funext i
    cases i with
    | zero => simp [ini]
    | succ n =>
      have := congrFun (ini_eq as) n
      simp only [ini, ← this]
      simp

/-- A test: which way is gone. -/
def IfGoal (t : Bool) (a b : St → Prop) (s : St) : Prop := if t = true then a s else b s
theorem IfGoal_true (a b : St → Prop) (s : St) : IfGoal true a b s = a s := by simp [IfGoal]
theorem IfGoal_false (a b : St → Prop) (s : St) : IfGoal false a b s = b s := by simp [IfGoal]
theorem IfGoal.intro {t : Bool} {a b : St → Prop} {s : St} (h1 : t = true → a s) (h2 : t = false → b s) : IfGoal t a b s := by
  cases t
  · rw [IfGoal_false]; exact h2 rfl
  · rw [IfGoal_true]; exact h1 rfl
/-- A call: what it comes to must be known. -/
def CallGoal (C : Ctx) (f : FuncId) (a : List DV) (sub : List (List DV)) (k : St → Prop) (s : St) (dst : Option Tmp) (gone : List Tmp) (ids : List Nat) : Prop :=
  ∃ args r bs', Wks a args ∧ DCalls C f args sub r bs' ∧ k (afterCall s dst gone ids r bs')
theorem CallGoal.intro {C : Ctx} {f : FuncId} {a : List DV} {sub : List (List DV)} {k : St → Prop} {s : St} {dst : Option Tmp} {gone : List Tmp} {ids : List Nat} {args r bs'}
    (hd : DCalls C f args sub r bs') (hw : Wks a args) (hk : k (afterCall s dst gone ids r bs')) : CallGoal C f a sub k s dst gone ids := ⟨args, r, bs', hw, hd, hk⟩
def nodupB : List Nat → Bool
  | [] => true
  | x :: xs => !(xs.contains x) && nodupB xs
theorem nodupB_spec : ∀ {l : List Nat}, nodupB l = true → l.Nodup
  | [], _ => List.nodup_nil
  | x :: xs, h => by
    simp only [nodupB, Bool.and_eq_true, Bool.not_eq_true'] at h
    exact List.nodup_cons.2 ⟨by intro hm; have := h.1; simp [hm] at this, nodupB_spec h.2⟩
def callPrep2 (hp : List (List DV)) (f : FuncId) (dc : List DV) (gone : List Tmp) (ids : List Nat) : Option (FuncId × List DV × List Nat × List (List DV) × List Tmp) :=
  match subHp hp ids with
  | some sub => if closedIn ids (boxRefs hp ids) && nodupB ids then some (f, mapRefs (idxIn ids) dc, ids, sub.map (mapRefs (idxIn ids)), gone) else none
  | none => none
def callPrep (s : St) (x : Operand) (args : List Operand) : Option (FuncId × List DV × List Nat × List (List DV) × List Tmp) :=
  match calleeD s x, argsD s args args with
  | some (f, cap), some ds => callPrep2 s.hp f (ds ++ cap) (given s args) (reach s.hp (ds ++ cap))
  | _, _ => none
/-- What has been done is handed on. -/
def opWp (C : Ctx) (n : Nat) (tk : Bool) (o : Oper) (k : St → Prop) (s : St) : Prop :=
  match o.op with
  | .call c => match c.callee with
    | .value x => match callPrep s x c.args.toList with
      | some (f, a, ids, sub, gone) => CallGoal C f a sub k s o.dst gone ids
      | none => False
    | _ => match stepD C.P n tk o s with
      | some s' => k s'
      | none => False
  | _ => match stepD C.P n tk o s with
    | some s' => k s'
    | none => False
theorem opWp_to {C n tk o k s} (hd : dstOk n o.dst = true) (e : opWp C n tk o k s) : ∃ s', opTo C n tk o s s' ∧ k s' := by
  unfold opWp at e
  unfold opTo
  cases hop : o.op with
  | call c =>
    rw [hop] at e
    dsimp only at e ⊢
    cases hc : c.callee with
    | value x =>
      rw [hc] at e
      dsimp only at e ⊢
      split at e
      · rename_i f a ids sub gone hp
        obtain ⟨args, r, bs', hw, hdc, hk⟩ := e
        unfold callPrep at hp
        split at hp
        · rename_i f' cap ds h1 h2
          unfold callPrep2 at hp
          split at hp
          · rename_i sub' h3
            split at hp
            · rename_i h4
              simp only [Bool.and_eq_true] at h4
              simp only [Option.some.injEq, Prod.mk.injEq] at hp
              obtain ⟨rfl, rfl, rfl, rfl, rfl⟩ := hp
              exact ⟨_, ⟨hd, f', cap, ds, sub', args, r, bs', h1, h2, h3, h4.1, nodupB_spec h4.2, hw, hdc, rfl⟩, hk⟩
            · cases hp
          · cases hp
        · cases hp
      · exact e.elim
    | _ =>
      rw [hc] at e
      dsimp only at e ⊢
      split at e
      · rename_i s' hs
        exact ⟨s', hs, e⟩
      · exact e.elim
  | _ =>
    rw [hop] at e
    dsimp only at e ⊢
    split at e
    · rename_i s' hs
      exact ⟨s', hs, e⟩
    · exact e.elim
def opsWp (C : Ctx) (n : Nat) (ops : List Oper) : List Oper → (St → Prop) → St → Prop
  | [], k, s => k s
  | o :: rest, k, s => match o.guard with
    | none => dstOk n o.dst = true ∧ opWp C n (takes ops o) o (opsWp C n ops rest k) s
    | some (j, want) => match (ops[j]?).bind (·.dst) with
      | some t => match s.tm t with
        | .p (.bool b) => dstOk n o.dst = true ∧ IfGoal (b == want) (opWp C n (takes ops o) o (opsWp C n ops rest k)) (fun s => opsWp C n ops rest k (s.put o.dst .ud)) s
        | .ud => dstOk n o.dst = true ∧ opsWp C n ops rest k (s.put o.dst .ud)
        | _ => False
      | none => False
theorem opsWp_to {C n} {ops : List Oper} : ∀ {l : List Oper} {k s}, opsWp C n ops l k s → ∃ s', opsTo C n ops.toArray l s s' ∧ k s'
  | [], k, s, e => ⟨s, rfl, e⟩
  | o :: rest, k, s, e => by
    simp only [opsWp] at e
    simp only [opsTo]
    split at e
    · rename_i hg
      obtain ⟨hd, e⟩ := e
      obtain ⟨s1, h1, h2⟩ := opWp_to hd e
      obtain ⟨s', h3, h4⟩ := opsWp_to h2
      exact ⟨s', ⟨true, by simp [guardD, hg], hd, s1, by simpa using h1, h3⟩, h4⟩
    · rename_i j want hg
      split at e
      · rename_i t ht
        split at e
        · rename_i b hb
          obtain ⟨hd, e⟩ := e
          have hgd : guardD ops.toArray o s = some (b == want) := by
            simp only [guardD, hg, List.getElem?_toArray, ht, hb]
          rcases hbw : (b == want) with _ | _
          · rw [hbw, IfGoal_false] at e
            obtain ⟨s', h3, h4⟩ := opsWp_to e
            exact ⟨s', ⟨false, by rw [hgd, hbw], hd, _, by simp, h3⟩, h4⟩
          · rw [hbw, IfGoal_true] at e
            obtain ⟨s1, h1, h2⟩ := opWp_to hd e
            obtain ⟨s', h3, h4⟩ := opsWp_to h2
            exact ⟨s', ⟨true, by rw [hgd, hbw], hd, s1, by simpa using h1, h3⟩, h4⟩
        · rename_i hb
          obtain ⟨hd, e⟩ := e
          have hgd : guardD ops.toArray o s = some false := by
            simp only [guardD, hg, List.getElem?_toArray, ht, hb]
          obtain ⟨s', h3, h4⟩ := opsWp_to e
          exact ⟨s', ⟨false, hgd, hd, _, by simp, h3⟩, h4⟩
        · exact e.elim
      · exact e.elim
end Go.Proofs.Dm
