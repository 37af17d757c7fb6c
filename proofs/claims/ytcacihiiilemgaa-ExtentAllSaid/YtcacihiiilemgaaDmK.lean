/- The D-machine, part K: calls. -/
import Derived.Test.YtcacihiiilemgaaDmJ
set_option linter.unusedVariables false
set_option linter.unusedSimpArgs false
namespace Go.Proofs.Dm
open Go Go.RowKit

mutual
def mapRef (f : Nat → Nat) : DV → DV
  | .ref i o => .ref (f i) o
  | .arr i o z n => .arr (f i) o z n
  | .agg cs => .agg (mapRefs f cs)
  | .tup cs => .tup (mapRefs f cs)
  | .fn g cs => .fn g (mapRefs f cs)
  | d => d
def mapRefs (f : Nat → Nat) : List DV → List DV
  | [] => []
  | d :: ds => mapRef f d :: mapRefs f ds
end
mutual
def refsD : DV → List Nat
  | .ref i _ => [i]
  | .arr i _ _ _ => [i]
  | .agg cs => refsDs cs
  | .tup cs => refsDs cs
  | .fn _ cs => refsDs cs
  | _ => []
def refsDs : List DV → List Nat
  | [] => []
  | d :: ds => refsD d ++ refsDs ds
end
mutual
theorem RepD.mapRef {w h ρ ρ'} (f : Nat → Nat) : ∀ (d : DV) (O : Nat → List Nat → Prop) (v : Value), (∀ i ∈ refsD d, ρ'[f i]? = ρ[i]?) → RepD w h ρ d O v → RepD w h ρ' (Dm.mapRef f d) O v
  | .ref i o, O, v, q, r => by
    simp only [RepD, Dm.mapRef] at r ⊢
    obtain ⟨b, hb, hv⟩ := r
    exact ⟨b, by rw [q i (by simp [refsD])]; exact hb, hv⟩
  | .agg cs, O, v, q, r => by
    simp only [RepD, Dm.mapRef] at r ⊢
    obtain ⟨vs, hv, hr⟩ := r
    exact ⟨vs, hv, RepDs.mapRefs f cs O 0 _ (fun i hi => q i (by simpa only [refsD] using hi)) hr⟩
  | .tup cs, O, v, q, r => by
    simp only [RepD, Dm.mapRef] at r ⊢
    obtain ⟨vs, hv, hr⟩ := r
    exact ⟨vs, hv, RepDs.mapRefs f cs O 0 _ (fun i hi => q i (by simpa only [refsD] using hi)) hr⟩
  | .fn g cs, O, v, q, r => by
    simp only [RepD, Dm.mapRef] at r ⊢
    obtain ⟨vs, hv, hr⟩ := r
    exact ⟨vs, hv, RepDs.mapRefs f cs O 0 _ (fun i hi => q i (by simpa only [refsD] using hi)) hr⟩
  | .p x, O, v, q, r => by simpa only [RepD, Dm.mapRef] using r
  | .nil, O, v, q, r => by simpa only [RepD, Dm.mapRef] using r
  | .own e z xs, O, v, q, r => by simpa only [RepD, Dm.mapRef] using r
  | .fr cs, O, v, q, r => by simpa only [RepD, Dm.mapRef] using r
  | .un, O, v, q, r => by simp only [RepD, Dm.mapRef]
  | .ud, O, v, q, r => by simpa only [RepD, Dm.mapRef] using r
  | .arr i o z n, O, v, q, r => by
    simp only [RepD, Dm.mapRef] at r ⊢
    obtain ⟨b, hb, hv⟩ := r
    exact ⟨b, by rw [q i (by simp [refsD])]; exact hb, hv⟩
  | .cp z xs, O, v, q, r => by simpa only [RepD, Dm.mapRef] using r
  | .mt e z, O, v, q, r => by simpa only [RepD, Dm.mapRef] using r
theorem RepDs.mapRefs {w h ρ ρ'} (f : Nat → Nat) : ∀ (ds : List DV) (O : Nat → List Nat → Prop) (k : Nat) (vs : List Value), (∀ i ∈ refsDs ds, ρ'[f i]? = ρ[i]?) → RepDs w h ρ ds O k vs → RepDs w h ρ' (Dm.mapRefs f ds) O k vs
  | [], O, k, vs, q, r => by simpa only [RepDs, Dm.mapRefs] using r
  | d :: ds, O, k, vs, q, r => by
    simp only [RepDs, Dm.mapRefs] at r ⊢
    obtain ⟨v, rest, hv, h1, h2⟩ := r
    exact ⟨v, rest, hv, RepD.mapRef f d _ v (fun i hi => q i (by simp [refsDs, hi])) h1, RepDs.mapRefs f ds O (k + 1) rest (fun i hi => q i (by simp [refsDs, hi])) h2⟩
end
mutual
theorem RepD.refs_ok {w h ρ} : ∀ (d : DV) (O : Nat → List Nat → Prop) (v : Value), RepD w h ρ d O v → ∀ i ∈ refsD d, ∃ b, ρ[i]? = some b
  | .ref j o, O, v, r, i, hi => by
    simp only [refsD, List.mem_singleton] at hi
    subst hi
    simp only [RepD] at r
    obtain ⟨b, hb, _⟩ := r
    exact ⟨b, hb⟩
  | .agg cs, O, v, r, i, hi => by simp only [RepD] at r; obtain ⟨vs, _, hr⟩ := r; exact RepDs.refs_ok cs _ _ _ hr i (by simpa only [refsD] using hi)
  | .tup cs, O, v, r, i, hi => by simp only [RepD] at r; obtain ⟨vs, _, hr⟩ := r; exact RepDs.refs_ok cs _ _ _ hr i (by simpa only [refsD] using hi)
  | .fn g cs, O, v, r, i, hi => by simp only [RepD] at r; obtain ⟨vs, _, hr⟩ := r; exact RepDs.refs_ok cs _ _ _ hr i (by simpa only [refsD] using hi)
  | .p x, O, v, r, i, hi => by simp [refsD] at hi
  | .nil, O, v, r, i, hi => by simp [refsD] at hi
  | .own e z xs, O, v, r, i, hi => by simp [refsD] at hi
  | .fr cs, O, v, r, i, hi => by simp [refsD] at hi
  | .un, O, v, r, i, hi => by simp [refsD] at hi
  | .ud, O, v, r, i, hi => by simp [refsD] at hi
  | .arr j o z n, O, v, r, i, hi => by
    simp only [refsD, List.mem_singleton] at hi
    subst hi
    simp only [RepD] at r
    obtain ⟨b, hb, _⟩ := r
    exact ⟨b, hb⟩
  | .cp z xs, O, v, r, i, hi => by simp [refsD] at hi
  | .mt e z, O, v, r, i, hi => by simp [refsD] at hi
theorem RepDs.refs_ok {w h ρ} : ∀ (ds : List DV) (O : Nat → List Nat → Prop) (k : Nat) (vs : List Value), RepDs w h ρ ds O k vs → ∀ i ∈ refsDs ds, ∃ b, ρ[i]? = some b
  | [], O, k, vs, r, i, hi => by simp [refsDs] at hi
  | d :: ds, O, k, vs, r, i, hi => by
    simp only [RepDs] at r
    obtain ⟨v, rest, rfl, h1, h2⟩ := r
    simp only [refsDs, List.mem_append] at hi
    rcases hi with hi | hi
    · exact RepD.refs_ok d _ _ h1 i hi
    · exact RepDs.refs_ok ds _ _ _ h2 i hi
end

/-- What a call of a Go function comes to. args: what it is handed; bs: the boxes that it reaches; r: what it gives; bs': the boxes behind it (new ones at the end). -/
def DCalls (C : Ctx) (f : FuncId) (args : List DV) (bs : List (List DV)) (r : DV) (bs' : List (List DV)) : Prop :=
  (∃ fn, C.P.funcs[f]? = some fn ∧ (fn.name == "runtime.NumGoroutine") = false ∧ fn.body.isNone = false) ∧
  ∀ w h ow ρ vs, RepDs w h ρ args (fun g p => ow g = some (.tmp p)) 0 vs → HR w h ρ ow bs → Glob C w ow →
    Calls C.P f vs.toArray w fun e w' => ∃ v h' ow' ex, e = .returned v ∧ Fr w h ow w' h' ow' ∧ HR w' h' (ρ ++ ex) ow' bs' ∧ RepD w' h' (ρ ++ ex) r (fun g p => ow' g = some (.res p)) v

theorem DCalls.wk {C f args bs r bs'} (d : DCalls C f args bs r bs') {args0 r'} (ka : Wks args0 args) (kr : Wk r r') : DCalls C f args0 bs r' bs' := by
  refine ⟨d.1, fun w h ow ρ vs ha hb hg => ?_⟩
  refine (d.2 w h ow ρ vs (RepDs.wk ka ha) hb hg).mono fun e w' ⟨v, h', ow', ex, h1, h2, h3, h4⟩ => ⟨v, h', ow', ex, h1, h2, h3, RepD.wk kr h4⟩

/-! ### The call at an operation -/
def calleeD (s : St) (x : Operand) : Option (FuncId × List DV) :=
  match evalD s x with
  | some (.fn f cap) => some (f, fzs cap)
  | _ => none
/-- Arguments: a slice of the call's own is handed over if its slot is named once. -/
def argsD (s : St) (all : List Operand) : List Operand → Option (List DV)
  | [] => some []
  | x :: xs => match evalD s x, argsD s all xs with
    | some d, some ds => some ((if hasOwn d then (match x with
        | .tmp t => if (all.filter fun y => match y with | .tmp u => u == t | _ => false).length = 1 then d else fz d
        | _ => fz d) else d) :: ds)
    | _, _ => none
def given (s : St) : List Operand → List Tmp
  | [] => []
  | .tmp t :: xs => if hasOwn (s.tm t) then t :: given s xs else given s xs
  | _ :: xs => given s xs
def addNew (l : List Nat) : List Nat → List Nat
  | [] => l
  | x :: xs => addNew (if l.contains x then l else l ++ [x]) xs
def boxRefs (hp : List (List DV)) : List Nat → List Nat
  | [] => []
  | i :: is => (match hp[i]? with
    | some b => refsDs b
    | none => []) ++ boxRefs hp is
def reach (hp : List (List DV)) (ds : List DV) : List Nat :=
  let a := addNew [] (refsDs ds)
  let b := addNew a (boxRefs hp a)
  addNew b (boxRefs hp b)
def subHp (hp : List (List DV)) : List Nat → Option (List (List DV))
  | [] => some []
  | i :: is => match hp[i]?, subHp hp is with
    | some b, some bs => some (b :: bs)
    | _, _ => none
def idxIn (ids : List Nat) (i : Nat) : Nat := ids.idxOf i
def backId (ids : List Nat) (n : Nat) (j : Nat) : Nat := match ids[j]? with
  | some i => i
  | none => n + (j - ids.length)
def writeBack (hp : List (List DV)) : List Nat → List (List DV) → List (List DV)
  | i :: is, b :: bs => writeBack (hp.set i b) is bs
  | _, bs => hp ++ bs
def St.kills (s : St) (ts : List Tmp) : St := { s with tm := fun i => if ts.contains i then .un else s.tm i }
/-- The state behind a call. -/
def afterCall (s : St) (dst : Option Tmp) (gone : List Tmp) (ids : List Nat) (r : DV) (bs' : List (List DV)) : St :=
  ({ s.kills gone with hp := writeBack s.hp ids (bs'.map (mapRefs (backId ids s.hp.length))) } : St).put dst (mapRef (backId ids s.hp.length) r)
def closedIn (ids : List Nat) (l : List Nat) : Bool := l.all fun i => ids.contains i
/-- A call: what must be shown of it, and where it comes to. -/
def callTo (C : Ctx) (n : Nat) (o : Oper) (c : Call) (x : Operand) (s s' : St) : Prop :=
  dstOk n o.dst = true ∧ ∃ f cap ds sub args r bs', calleeD s x = some (f, cap) ∧ argsD s c.args.toList c.args.toList = some ds ∧
    subHp s.hp (reach s.hp (ds ++ cap)) = some sub ∧ closedIn (reach s.hp (ds ++ cap)) (boxRefs s.hp (reach s.hp (ds ++ cap))) = true ∧ (reach s.hp (ds ++ cap)).Nodup ∧
    Wks (mapRefs (idxIn (reach s.hp (ds ++ cap))) (ds ++ cap)) args ∧ DCalls C f args (sub.map (mapRefs (idxIn (reach s.hp (ds ++ cap))))) r bs' ∧
    s' = afterCall s o.dst (given s c.args.toList) (reach s.hp (ds ++ cap)) r bs'

theorem subHp_spec {hp : List (List DV)} : ∀ {ids : List Nat} {sub : List (List DV)}, subHp hp ids = some sub → sub.length = ids.length ∧ ∀ (j i : Nat), ids[j]? = some i → ∃ b : List DV, hp[i]? = some b ∧ sub[j]? = some b
  | [], sub, e => by simp only [subHp, Option.some.injEq] at e; subst e; simp
  | i :: is, sub, e => by
    simp only [subHp] at e
    split at e
    · rename_i b bs h1 h2
      injection e with e; subst e
      obtain ⟨q1, q2⟩ := subHp_spec h2
      refine ⟨by simp [q1], fun j i' hj => ?_⟩
      cases j with
      | zero => simp at hj; subst hj; exact ⟨b, h1, by simp⟩
      | succ j => simp at hj; obtain ⟨b', p1, p2⟩ := q2 j i' hj; exact ⟨b', p1, by simpa using p2⟩
    · cases e
theorem boxRefs_spec {hp : List (List DV)} : ∀ {ids : List Nat} {i : Nat} {b : List DV}, i ∈ ids → hp[i]? = some b → ∀ j ∈ refsDs b, j ∈ boxRefs hp ids
  | [], i, b, hi, _, j, hj => by simp at hi
  | x :: xs, i, b, hi, hb, j, hj => by
    simp only [boxRefs, List.mem_append]
    rcases List.mem_cons.1 hi with e | e
    · subst e; rw [hb]; exact .inl hj
    · exact .inr (boxRefs_spec e hb j hj)
theorem addNew_mem : ∀ {xs l : List Nat} {i : Nat}, (i ∈ l ∨ i ∈ xs) → i ∈ addNew l xs
  | [], l, i, h => by simpa [addNew] using h
  | x :: xs, l, i, h => by
    simp only [addNew]
    apply addNew_mem
    rcases h with h | h
    · left; split
      · exact h
      · simp [h]
    · rcases List.mem_cons.1 h with e | e
      · left; subst e; split
        · rename_i hc; simpa using hc
        · simp
      · right; exact e
theorem reach_mem {hp : List (List DV)} {ds : List DV} {i : Nat} (h : i ∈ refsDs ds) : i ∈ reach hp ds := by
  unfold reach
  exact addNew_mem (.inl (addNew_mem (.inl (addNew_mem (.inr h)))))
theorem refsDs_append : ∀ (a b : List DV), refsDs (a ++ b) = refsDs a ++ refsDs b
  | [], b => rfl
  | d :: a, b => by simp [refsDs, refsDs_append a b]
theorem idx_get {ids : List Nat} {i : Nat} (h : i ∈ ids) : ids[idxIn ids i]? = some i := by
  unfold idxIn
  rw [List.getElem?_eq_getElem (List.idxOf_lt_length_of_mem h), List.getElem_idxOf]
end Go.Proofs.Dm
