/- Part of the proof: contracts of the functions, walked by the D-machine. No condition. -/
import Derived.Test.YtmbnkgagicgcoaaDoorDf
set_option linter.unusedVariables false
set_option linter.unusedSimpArgs false
namespace Go.Proofs.Dm
open Go Go.RowKit

/-! ### calls -/
theorem argsD_mu {dx v ib s} {all : List Operand} : ∀ {xs : List Operand}, (∀ x ∈ xs, x ≠ .tmp dx) → argsD (mu dx v ib s) all xs = argsD s all xs
  | [], h => rfl
  | x :: xs, h => by simp only [argsD, evalD_mu (h x (by simp)), argsD_mu (xs := xs) (fun y hy => h y (by simp [hy]))]
theorem given_mu {dx v ib s} : ∀ {xs : List Operand}, (∀ x ∈ xs, x ≠ .tmp dx) → given (mu dx v ib s) xs = given s xs
  | [], h => rfl
  | x :: xs, h => by
    have ih := given_mu (dx := dx) (v := v) (ib := ib) (s := s) (xs := xs) (fun y hy => h y (by simp [hy]))
    cases x with
    | tmp t =>
      have : t ≠ dx := fun e => h (.tmp t) (by simp) (by rw [e])
      simp only [given, tm_mu this, ih]
    | _ => simp only [given, ih]
theorem calleeD_mu {dx v ib s} {x : Operand} (h : x ≠ .tmp dx) : calleeD (mu dx v ib s) x = calleeD s x := by simp only [calleeD, evalD_mu h]
theorem boxRefs_congr {hp hp' : List (List DV)} : ∀ {ids : List Nat}, (∀ i ∈ ids, hp'[i]? = hp[i]?) → boxRefs hp' ids = boxRefs hp ids
  | [], h => rfl
  | i :: is, h => by simp only [boxRefs, h i (by simp), boxRefs_congr (ids := is) (fun j hj => h j (by simp [hj]))]
theorem reach_congr {hp hp' : List (List DV)} {ds : List DV} (h : ∀ i ∈ reach hp ds, hp'[i]? = hp[i]?) : reach hp' ds = reach hp ds := by
  unfold reach at h ⊢
  dsimp only at h ⊢
  have e1 : boxRefs hp' (addNew [] (refsDs ds)) = boxRefs hp (addNew [] (refsDs ds)) := boxRefs_congr fun i hi => h i (addNew_mem (.inl (addNew_mem (.inl hi))))
  rw [e1]
  have e2 : boxRefs hp' (addNew (addNew [] (refsDs ds)) (boxRefs hp (addNew [] (refsDs ds)))) = boxRefs hp (addNew (addNew [] (refsDs ds)) (boxRefs hp (addNew [] (refsDs ds)))) :=
    boxRefs_congr fun i hi => h i (addNew_mem (.inl hi))
  rw [e2]
theorem subHp_congr {hp hp' : List (List DV)} : ∀ {ids : List Nat}, (∀ i ∈ ids, hp'[i]? = hp[i]?) → subHp hp' ids = subHp hp ids
  | [], h => rfl
  | i :: is, h => by simp only [subHp, h i (by simp), subHp_congr (ids := is) (fun j hj => h j (by simp [hj]))]
theorem writeBack_setO {ib : Option (Nat × List DV)} : ∀ {hp : List (List DV)} {ids : List Nat} {bs : List (List DV)}, (∀ i ∈ ids, offBox ib i) → (∀ j b, ib = some (j, b) → j < hp.length) →
    writeBack (setO hp ib) ids bs = setO (writeBack hp ids bs) ib
  | hp, [], bs, h, hl => by
    have : ∀ hp : List (List DV), writeBack hp [] bs = hp ++ bs := fun hp => by cases bs <;> rfl
    rw [this, this, setO_append hl]
  | hp, i :: is, [], h, hl => by simp only [writeBack, List.append_nil]
  | hp, i :: is, b :: bs, h, hl => by
    simp only [writeBack]
    rw [setO_set (h i (by simp)), writeBack_setO (fun j hj => h j (by simp [hj])) (by simpa using hl)]
theorem kills_mu {dx v ib s} {ts : List Tmp} (h : dx ∉ ts) : (mu dx v ib s).kills ts = mu dx v ib (s.kills ts) := by
  simp only [mu, St.kills, upd, St.mk.injEq, and_true]
  funext i
  by_cases h1 : i = dx
  · subst h1; simp [h, upd]
  · by_cases h2 : ts.contains i = true <;> simp [h1, upd]
theorem callTo_mu {C n o c x dx v ib s s'} (hx : x ≠ .tmp dx) (hxs : ∀ y ∈ c.args.toList, y ≠ .tmp dx) (hd : o.dst ≠ some dx) (hl : ∀ j b, ib = some (j, b) → j < s.hp.length)
    (hr : ∀ f cap ds, calleeD s x = some (f, cap) → argsD s c.args.toList c.args.toList = some ds → ∀ i ∈ reach s.hp (ds ++ cap), offBox ib i) (e : callTo C n o c x s s') :
    callTo C n o c x (mu dx v ib s) (mu dx v ib s') := by
  obtain ⟨h0, f, cap, ds, sub, args, r, bs', h1, h2, h3, h4, h5, h6, h7, h8⟩ := e
  have hoff := hr f cap ds h1 h2
  have hre : reach (mu dx v ib s).hp (ds ++ cap) = reach s.hp (ds ++ cap) := reach_congr fun i hi => setO_get (hoff i hi)
  refine ⟨h0, f, cap, ds, sub, args, r, bs', by rw [calleeD_mu hx]; exact h1, by rw [argsD_mu hxs]; exact h2, ?_, ?_, by rw [hre]; exact h5, by rw [hre]; exact h6, by rw [hre]; exact h7, ?_⟩
  · rw [hre, ← h3]; exact subHp_congr fun i hi => setO_get (hoff i hi)
  · rw [hre, hp_mu, boxRefs_congr fun i hi => setO_get (hoff i hi)]; exact h4
  · rw [hre, h8]
    have hg : dx ∉ given s c.args.toList := fun q => hxs _ ((given_mem.1 q).1) rfl
    unfold afterCall
    rw [given_mu hxs, kills_mu hg, hp_mu, setO_len, writeBack_setO hoff hl, ← put_mu hd]
    rfl

/-! ### labels -/
structure Lab where
  dst : Option Tmp
  looks : List Tmp
  gone : List Tmp
  rd : List Nat
  wr : List Nat
  simple : Bool
  ld : Option (Nat × Nat × Nat)
  mv : Bool

def guardSlot (ops : List Oper) (o : Oper) : List Tmp :=
  match o.guard with
  | none => []
  | some (j, _) => match (ops[j]?).bind (·.dst) with
    | some t => [t]
    | none => []
def looksG (ops : List Oper) (o : Oper) : List Tmp := guardSlot ops o ++ looksD o
def skips (ops : List Oper) (o : Oper) (s : St) : Bool := guardD ops.toArray o s == some false
/-- The boxes that an operation reads or writes. -/
def rdD (o : Oper) (s : St) : List Nat :=
  match o.op with
  | .load _ x => match evalD s x with
    | some (.ref id _) => [id]
    | _ => []
  | .store _ x _ => match evalD s x with
    | some (.ref id _) => [id]
    | _ => []
  | .call c => match c.callee with
    | .value x => match calleeD s x, argsD s c.args.toList c.args.toList with
      | some (_, cap), some ds => reach s.hp (ds ++ cap)
      | _, _ => []
    | .builtin .append => argBoxes s c.args.toList
    | .builtin .copy => argBoxes s c.args.toList
    | .builtin .clear => argBoxes s c.args.toList
    | _ => []
  | _ => []
/-- Those that it writes. -/
def wrD (P : Program) (tk : Bool) (o : Oper) (s : St) : List Nat :=
  match o.op with
  | .load t x => match evalD s x with
    | some (.ref id off) => match tsz P t, s.hp[id]? with
      | some z, some box => if tk && hasOwns ((box.drop off).take z) then [id] else []
      | _, _ => []
    | _ => []
  | _ => rdD o s
def anyOwn (s : St) : List Tmp → Bool
  | [] => false
  | t :: ts => hasOwn (s.tm t) || anyOwn s ts
def simpleD (tk : Bool) (o : Oper) (s : St) : Bool :=
  match o.op with
  | .move _ => !tk || !(anyOwn s (looksD o))
  | .assign _ => !(anyOwn s (looksD o))
  | .build _ _ => !(anyOwn s (looksD o))
  | .buildSlice _ _ _ => true
  | .load _ _ => true
  | .alloc _ => false
  | .box _ _ => false
  | .store _ _ _ => false
  | .makeSlice _ _ _ => false
  | .call c => match c.callee with
    | .builtin .append => false
    | .builtin .copy => false
    | .builtin .clear => false
    | .builtin _ => true
    | _ => false
  | _ => true
def goneL (s : St) : List Tmp → List Tmp
  | [] => []
  | t :: ts => if hasOwn (s.tm t) then t :: goneL s ts else goneL s ts
/-- Does an operation hand on what its slots own? -/
def eats (o : Oper) : Bool :=
  match o.op with
  | .move _ => true
  | .assign _ => true
  | .store _ _ _ => true
  | .build _ _ => true
  | .call c => match c.callee with
    | .builtin .append => true
    | .builtin _ => false
    | _ => true
  | _ => false
def eatsT (tk : Bool) (o : Oper) : Bool :=
  match o.op with
  | .move _ => tk
  | _ => eats o
theorem eatsT_eats {tk o} (h : eatsT tk o = true) : eats o = true := by
  unfold eatsT at h
  split at h
  · rename_i hop; simp [eats, hop]
  · exact h
def goneD (tk : Bool) (o : Oper) (s : St) : List Tmp := if eatsT tk o then goneL s (looksD o) else []
/-- The cells that a load reads. -/
def ldD (P : Program) (o : Oper) (s : St) : Option (Nat × Nat × Nat) :=
  match o.op with
  | .load t x => match evalD s x, tsz P t with
    | some (.ref id off), some z => some (id, off, z)
    | _, _ => none
  | _ => none
/-- Hands a slot's own on to another slot. -/
def mvD (tk : Bool) (o : Oper) (s : St) : Bool :=
  match o.op with
  | .move (.tmp t) => tk && hasOwn (s.tm t) && (match o.dst with
    | some d => d != t
    | none => false)
  | _ => false
def labD (P : Program) (ops : List Oper) (o : Oper) (s : St) : Lab :=
  if skips ops o s then ⟨o.dst, looksG ops o, [], [], [], o.dst.isSome, none, false⟩
  else ⟨o.dst, looksG ops o, goneD (takes ops o) o s, rdD o s, wrD P (takes ops o) o s, o.dst.isSome && simpleD (takes ops o) o s, ldD P o s, mvD (takes ops o) o s⟩

/-- One operation with its guard. -/
def gstep (C : Ctx) (n : Nat) (ops : List Oper) (o : Oper) (s s' : St) : Prop :=
  ∃ g, guardD ops.toArray o s = some g ∧ dstOk n o.dst = true ∧ (if g then opTo C n (takes ops o) o s s' else s' = s.put o.dst .ud)

theorem goneL_mem {s : St} : ∀ {ts : List Tmp} {t : Tmp}, t ∈ goneL s ts ↔ t ∈ ts ∧ hasOwn (s.tm t) = true
  | [], t => by simp [goneL]
  | u :: us, t => by
    simp only [goneL]
    split
    · rename_i h
      simp only [List.mem_cons, goneL_mem (ts := us)]
      constructor
      · rintro (e | ⟨e1, e2⟩)
        · subst e; exact ⟨.inl rfl, h⟩
        · exact ⟨.inr e1, e2⟩
      · rintro ⟨e | e, e2⟩
        · exact .inl e
        · exact .inr ⟨e, e2⟩
    · rename_i h
      simp only [List.mem_cons, goneL_mem (ts := us)]
      constructor
      · rintro ⟨e1, e2⟩; exact ⟨.inr e1, e2⟩
      · rintro ⟨e | e, e2⟩
        · subst e; exact absurd e2 h
        · exact ⟨e, e2⟩
theorem anyOwn_false {s : St} : ∀ {ts : List Tmp}, anyOwn s ts = false → ∀ t ∈ ts, hasOwn (s.tm t) = false
  | [], h, t, ht => by simp at ht
  | u :: us, h, t, ht => by
    simp only [anyOwn, Bool.or_eq_false_iff] at h
    rcases List.mem_cons.1 ht with e | e
    · subst e; exact h.1
    · exact anyOwn_false h.2 t e

/-! ### what a step keeps -/
structure Keeps (s s' : St) (dst : Option Tmp) (gone : List Tmp) (wr : List Nat) : Prop where
  tm : ∀ u, dst ≠ some u → u ∉ gone → s'.tm u = s.tm u
  hp : ∀ j, j < s.hp.length → j ∉ wr → s'.hp[j]? = s.hp[j]?
  len : s.hp.length ≤ s'.hp.length

theorem keeps_put {s : St} {d : Option Tmp} {v : DV} {gone wr} : Keeps s (s.put d v) d gone wr := by
  refine ⟨fun u hu _ => ?_, fun j _ _ => ?_, ?_⟩
  · cases d with
    | none => rfl
    | some d => simp only [St.put]; rw [if_neg (fun e => hu (by rw [e]))]
  · cases d <;> rfl
  · cases d <;> exact Nat.le_refl _
theorem keeps_put2 {s : St} {t : Tmp} {d : Option Tmp} {u v : DV} {gone wr} (ht : t ∈ gone) : Keeps s ((s.put (some t) u).put d v) d gone wr := by
  refine ⟨fun x hx hg => ?_, fun j _ _ => ?_, ?_⟩
  · have : x ≠ t := fun e => hg (by rw [e]; exact ht)
    cases d with
    | none => simp only [St.put]; rw [if_neg this]
    | some d => simp only [St.put]; rw [if_neg (fun e => hx (by rw [e])), if_neg this]
  · cases d <;> rfl
  · cases d <;> exact Nat.le_refl _

theorem keeps_new {s s1 : St} {dst gone wr} {bs : List (List DV)} (k : Keeps s s1 dst gone wr) (hhp : s1.hp = s.hp) : Keeps s { s1 with hp := s.hp ++ bs } dst gone wr :=
  ⟨k.tm, fun j hj _ => List.getElem?_append_left hj, by simp⟩
theorem appendB_keeps {e z by_ d x y s s' gone wr} (hg : ∀ t, x = .tmp t → hasOwn (s.tm t) = true → t ∈ gone) (hw : ∀ id off z n, evalD s x = some (.arr id off z n) → id ∈ wr) (q : appendB e z by_ d x y s = some s') : Keeps s s' (some d) gone wr := by
  unfold appendB at q
  split at q
  · rename_i e' z' src m h1 h2
    split at q
    · rename_i ts
      split at q
      · injection q with q; subst q
        simp only [evalD, Option.some.injEq] at h1
        exact keeps_new (keeps_put2 (hg ts rfl (by rw [h1]; rfl))) rfl
      · cases q
    · cases q
  · rename_i e' z' src m h1 h2
    split at q
    · rename_i ts
      split at q
      · injection q with q; subst q
        simp only [evalD, Option.some.injEq] at h1
        exact keeps_new (keeps_put2 (hg ts rfl (by rw [h1]; rfl))) rfl
      · cases q
    · cases q
  · rename_i id off z' n src m h1 h2
    split at q
    · split at q
      · injection q with q; subst q
        have k := keeps_put (s := s) (d := some d) (v := .arr s.hp.length 0 z (n + m)) (gone := gone) (wr := wr)
        refine ⟨k.tm, fun j hj hwj => ?_, by simp⟩
        have : id ≠ j := fun q => hwj (by rw [← q]; exact hw id off z' n h1)
        rw [List.getElem?_append_left (by simpa using hj), List.getElem?_set_ne this]
      · cases q
    · cases q
  · rename_i z' xs src m h1 h2
    split at q
    · injection q with q; subst q
      exact keeps_new keeps_put rfl
    · split at q
      · split at q
        · injection q with q; subst q; exact keeps_put
        · cases q
      · cases q
  · cases q
theorem appendA_keeps {P o c s s' gone wr} (hg : ∀ t, (.tmp t : Operand) ∈ c.args.toList → hasOwn (s.tm t) = true → t ∈ gone) (hw : ∀ id ∈ argBoxes s c.args.toList, id ∈ wr) (q : appendA P o c s = some s') : Keeps s s' o.dst gone wr := by
  unfold appendA at q
  split at q
  · rename_i x y t t' d h1 h2 h3
    split at q
    · split at q
      · split at q
        · rw [h3]
          exact appendB_keeps (fun t hx ho => hg t (by rw [h1, ← hx]; simp) ho) (fun id off z n hx => hw id (argBoxes_mem (by rw [h1]; simp) hx)) q
        · cases q
      · cases q
    · cases q
  · cases q
theorem clearD_keeps {P o c s s' gone wr} (hw : ∀ id ∈ argBoxes s c.args.toList, id ∈ wr) (q : clearD P o c s = some s') : Keeps s s' o.dst gone wr := by
  unfold clearD at q
  split at q
  · rename_i x t h1 h2
    split at q
    · split at q
      · rename_i z zc id off z' n h4 h4' h5
        split at q
        · split at q
          · injection q with q; subst q; exact keeps_put
          split at q
          · injection q with q; subst q
            rename_i box _ _ _
            have k := keeps_put (s := ({ s with hp := s.hp.set id (box.take off ++ (List.replicate n zc).flatten ++ box.drop (off + n * z)) } : St)) (d := o.dst) (v := .tup []) (gone := gone) (wr := wr)
            refine ⟨fun u hu hg => k.tm u hu hg, fun j hj hwj => ?_, ?_⟩
            · rw [k.hp j (by simpa using hj) hwj]
              exact List.getElem?_set_ne (fun q => hwj (by rw [← q]; exact hw id (argBoxes_mem (by rw [h1]; simp) h5)))
            · have := k.len
              simpa using this
          · cases q
        · cases q
      · cases q
    · cases q
  · cases q
theorem copyD_keeps {P o c s s' gone wr} (hw : ∀ id ∈ argBoxes s c.args.toList, id ∈ wr) (q : copyD P o c s = some s') : Keeps s s' o.dst gone wr := by
  unfold copyD at q
  split at q
  · rename_i x y t t' h1 h2
    split at q
    · split at q
      · rename_i z id off z' n h4 h5
        split at q
        · split at q
          · injection q with q; subst q; exact keeps_put
          split at q
          · injection q with q; subst q
            rename_i box src m _ _ _ _
            have k := keeps_put (s := ({ s with hp := s.hp.set id (box.take off ++ src.take (min m n * z) ++ box.drop (off + min m n * z)) } : St)) (d := o.dst) (v := .p (.int .i64 (min m n : Nat))) (gone := gone) (wr := wr)
            refine ⟨fun u hu hg => k.tm u hu hg, fun j hj hwj => ?_, ?_⟩
            · rw [k.hp j (by simpa using hj) hwj]
              exact List.getElem?_set_ne (fun q => hwj (by rw [← q]; exact hw id (argBoxes_mem (by rw [h1]; simp) h5)))
            · have := k.len
              simpa using this
          · cases q
        · cases q
      · cases q
    · cases q
  · cases q
theorem makeSliceD_keeps {P o t l c s s' gone wr} (q : makeSliceD P o t l c s = some s') : Keeps s s' o.dst gone wr := by
  unfold makeSliceD at q
  split at q
  · rename_i el d k1 nn k2 nn' h1 h2 h3 h4
    split at q
    · split at q
      · injection q with q; subst q
        rw [h2]
        exact keeps_new keeps_put rfl
      · cases q
    · cases q
  · cases q

theorem stepD_keeps {P : Program} {n : Nat} {tk : Bool} {o : Oper} {s s' : St} (e : stepD P n tk o s = some s') : Keeps s s' o.dst (goneL s (looksD o)) (wrD P tk o s) := by
  have mem : ∀ t, (.tmp t : Operand) ∈ o.op.operands.toList → hasOwn (s.tm t) = true → t ∈ goneL s (looksD o) := fun t h1 h2 => goneL_mem.2 ⟨mem_looks.2 h1, h2⟩
  have mv : ∀ tk x, (x ∈ o.op.operands.toList) → moveD P tk o x s = some s' → Keeps s s' o.dst (goneL s (looksD o)) (wrD P tk o s) := by
    intro tk x hx e
    unfold moveD at e
    split at e
    · rename_i t
      split at e
      · rename_i ho
        split at e
        · split at e
          · rename_i d hdst
            injection e with e; subst e
            rw [hdst]
            exact keeps_put2 (mem t hx ho)
          · cases e
        · injection e with e; subst e; exact keeps_put
      · injection e with e; subst e; exact keeps_put
    · split at e
      · injection e with e; subst e; exact keeps_put
      · cases e
  unfold stepD at e
  split at e
  · split at e
    · rename_i x hop; have := mv tk x (by rw [hop]; simp [Op.operands]) e; exact ⟨this.tm, fun j h1 h2 => this.hp j h1 (by simp [wrD, rdD, hop]), this.len⟩
    · rename_i x hop; have := mv true x (by rw [hop]; simp [Op.operands]) e; exact ⟨this.tm, fun j h1 h2 => this.hp j h1 (by simp [wrD, rdD, hop]), this.len⟩
    · rename_i t hop
      unfold allocD at e
      split at e
      · rename_i d box h1 h2
        injection e with e; subst e
        rw [h1]
        refine ⟨fun u hu hg => (keeps_put (gone := goneL s (looksD o)) (wr := [])).tm u hu hg, fun j hj _ => ?_, by simp⟩
        exact List.getElem?_append_left hj
      · cases e
    · rename_i t x hop
      unfold boxD at e
      split at e
      · rename_i d u h1 h2
        split at e
        · injection e with e; subst e
          rw [h1]
          refine ⟨fun u hu hg => (keeps_put (gone := goneL s (looksD o)) (wr := [])).tm u hu hg, fun j hj _ => ?_, by simp⟩
          exact List.getElem?_append_left hj
        · cases e
      · cases e
    · rename_i t x hop
      unfold loadD at e
      split at e
      · rename_i z g h1 h2
        split at e
        · rename_i id off h3
          split at e
          · rename_i box h4
            split at e
            · split at e
              · rename_i h6
                split at e
                · rename_i d u h7 h8
                  injection e with e; subst e
                  rw [h7]
                  refine ⟨fun u hu hg => (keeps_put (gone := goneL s (looksD o)) (wr := [])).tm u hu hg, fun j hj hw => ?_, by simp⟩
                  have : id ≠ j := fun q => hw (by simp only [wrD, hop, h3, h1, h4]; rw [if_pos h6]; simp [q])
                  exact List.getElem?_set_ne this
                · cases e
              · obtain ⟨u, h7, h8⟩ := Option.map_eq_some_iff.1 e
                subst h8; exact keeps_put
            · cases e
          · cases e
        · split at e
          · obtain ⟨u, h7, h8⟩ := Option.map_eq_some_iff.1 e
            subst h8; exact keeps_put
          · cases e
        · cases e
      · cases e
    · rename_i t x y hop
      unfold storeD at e
      split at e
      · rename_i z h1 h2
        split at e
        · rename_i id off u h3 h4
          split at e
          · rename_i cs box h5 h6
            have hw : ∀ j, j ∉ wrD P tk o s → id ≠ j := fun j hj q => hj (by simp only [wrD, rdD, hop, h3]; simp [q])
            split at e
            · split at e
              · rename_i ho
                split at e
                · rename_i ty
                  injection e with e; subst e
                  refine ⟨fun u hu hg => ?_, fun j hj hwj => List.getElem?_set_ne (hw j hwj), by simp⟩
                  simp only [evalD, Option.some.injEq] at h4
                  have hm : ty ∈ goneL s (looksD o) := mem ty (by rw [hop]; simp [Op.operands]) (by rw [h4]; exact ho)
                  simp only [St.put]
                  rw [if_neg (fun q => hg (by rw [q]; exact hm))]
                · cases e
              · injection e with e; subst e
                exact ⟨fun u hu hg => rfl, fun j hj hwj => List.getElem?_set_ne (hw j hwj), by simp⟩
            · cases e
          · cases e
        · cases e
      · cases e
    · rename_i t parts hop
      unfold buildD at e
      split at e
      · rename_i d pl z h1 h2 h3
        split at e
        · injection e with e; subst e; rw [h1]; exact keeps_put
        · rename_i cells ts off h4
          injection e with e; subst e
          rw [h1]
          refine keeps_put2 ?_
          have := fillD_owner parts.toList z none cells ts off h4
          rcases this with q | ⟨i, q1, q2⟩
          · cases q
          · exact mem ts (by rw [hop]; simp only [Op.operands, List.toList_toArray, List.mem_map]; exact ⟨_, q1, rfl⟩) q2
        · cases e
      · cases e
    · rename_i t len parts hop
      unfold buildSliceD at e
      split at e
      · rename_i el d hts hdst
        split at e
        · split at e
          · split at e
            · injection e with e; subst e
              rw [hdst]; exact keeps_put
            · cases e
          · cases e
        · cases e
      · cases e
    · rename_i t l c hop; exact makeSliceD_keeps e
    · rename_i c hop
      split at e
      rename_i hcal
      split at e
      · exact appendA_keeps (fun t ht ho => mem t (by rw [hop]; simp only [Op.operands, Call.operands, Array.toList_append, List.mem_append]; exact .inr ht) ho) (fun id hid => by simp only [wrD, rdD, hop, hcal]; exact hid) e
      · unfold appendD at e
        split at e
        · split at e
          · rename_i x y t t' ha hb
            split at e
            · split at e
              · rename_i z by_ zv d h4 h5 h6 h7
                split at e
                · rename_i xs own? ys h8 h9
                  split at e
                  · injection e with e; subst e
                    rw [h7]
                    cases own? with
                    | none => exact keeps_put
                    | some ts =>
                      refine keeps_put2 ?_
                      unfold appBase at h8
                      split at h8
                      · rename_i e' z' xs' hev
                        split at h8
                        · rename_i t0
                          split at h8
                          · injection h8 with h8; injection h8 with _ h8; injection h8 with h8; subst h8
                            refine mem t0 (by rw [hop]; simp only [Op.operands, Call.operands, Array.toList_append, List.mem_append]; right; rw [ha]; simp) ?_
                            simp only [evalD, Option.some.injEq] at hev
                            rw [hev]; rfl
                          · cases h8
                        · cases h8
                      · injection h8 with h8; injection h8 with _ h8; cases h8
                      · cases h8
                  · cases e
                · cases e
              · cases e
            · cases e
          · cases e
        · cases e
      · rename_i hcal; exact copyD_keeps (fun id hid => by simp only [wrD, rdD, hop, hcal]; exact hid) e
      · rename_i hcal; exact clearD_keeps (fun id hid => by simp only [wrD, rdD, hop, hcal]; exact hid) e
      · obtain ⟨d, h1, h2⟩ := Option.map_eq_some_iff.1 e
        subst h2; exact keeps_put
    · obtain ⟨d, h1, h2⟩ := Option.map_eq_some_iff.1 e
      subst h2; exact keeps_put
  · cases e
where
  fillD_owner {s : St} {pl : List (Nat × Nat)} : ∀ (parts : List (Nat × Operand)) (cells : List DV) (k : Option (Tmp × Nat)) (res : List DV) (ts off : Nat), fillD s pl parts cells k = some (res, some (ts, off)) →
      k = some (ts, off) ∨ ∃ i, (i, (.tmp ts : Operand)) ∈ parts ∧ hasOwn (s.tm ts) = true
    | [], cells, k, res, ts, off, e => by simp only [fillD, Option.some.injEq, Prod.mk.injEq] at e; exact .inl e.2
    | (i, x) :: rest, cells, k, res, ts, off, e => by
      simp only [fillD] at e
      split at e
      · rename_i off' z v h1 h2
        split at e
        · rename_i ho
          split at e
          · rename_i t e2 zz xs _
            split at e
            · rcases fillD_owner rest _ _ _ _ _ e with q | ⟨j, q1, q2⟩
              · injection q with q; injection q with q1 q2
                subst q1
                simp only [evalD, Option.some.injEq] at h2
                exact .inr ⟨i, by simp, by rw [h2]; rfl⟩
              · exact .inr ⟨j, by simp [q1], q2⟩
            · cases e
          · cases e
        · split at e
          · split at e
            · rcases fillD_owner rest _ _ _ _ _ e with q | ⟨j, q1, q2⟩
              · exact .inl q
              · exact .inr ⟨j, by simp [q1], q2⟩
            · cases e
          · cases e
      · cases e

theorem Keeps.less {s s' dst gone gone' wr} (k : Keeps s s' dst gone wr) (h : ∀ u ∈ gone, u ∈ gone') : Keeps s s' dst gone' wr := ⟨fun u h1 h2 => k.tm u h1 (fun q => h2 (h u q)), k.hp, k.len⟩
theorem stepD_keeps' {P : Program} {n : Nat} {tk : Bool} {o : Oper} {s s' : St} (e : stepD P n tk o s = some s') : Keeps s s' o.dst (goneD tk o s) (wrD P tk o s) := by
  by_cases he : eatsT tk o = true
  · simp only [goneD, he, if_true]; exact stepD_keeps e
  · have k := stepD_keeps e
    simp only [goneD, he, if_false]
    refine ⟨fun u h1 _ => ?_, k.hp, k.len⟩
    have pt : ∀ d : DV, s' = s.put o.dst d → s'.tm u = s.tm u := fun d hd => by
      rw [hd]; exact (keeps_put (gone := []) (wr := [])).tm u h1 (by simp)
    unfold stepD at e
    split at e
    · split at e
      · rename_i x hop
        have htk : tk = false := by simpa [eatsT, hop] using he
        subst htk
        unfold moveD at e
        split at e
        · split at e
          · simp only [Bool.false_eq_true, if_false, Option.some.injEq] at e
            exact pt _ e.symm
          · injection e with e; exact pt _ e.symm
        · split at e
          · injection e with e; exact pt _ e.symm
          · cases e
      · rename_i x hop; exact absurd (by simp [eatsT, eats, hop]) he
      · rename_i t hop
        unfold allocD at e
        split at e
        · rename_i d box h2 h3
          injection e with e; subst e
          rw [h2] at h1
          exact (keeps_put (s := s) (d := some d) (v := .ref s.hp.length 0) (gone := []) (wr := [])).tm u h1 (by simp)
        · cases e
      · rename_i t x hop
        unfold boxD at e
        split at e
        · rename_i d u' h2 h3
          split at e
          · injection e with e; subst e
            rw [h2] at h1
            exact (keeps_put (s := s) (d := some d) (v := .ref s.hp.length 0) (gone := []) (wr := [])).tm u h1 (by simp)
          · cases e
        · cases e
      · rename_i t x hop
        unfold loadD at e
        split at e
        · split at e
          · split at e
            · split at e
              · split at e
                · split at e
                  · rename_i d v h7 h8
                    injection e with e; subst e
                    rw [h7] at h1
                    exact (keeps_put (s := s) (d := some d) (v := v) (gone := []) (wr := [])).tm u h1 (by simp)
                  · cases e
                · obtain ⟨v, h7, h8⟩ := Option.map_eq_some_iff.1 e
                  exact pt v h8.symm
              · cases e
            · cases e
          · split at e
            · obtain ⟨v, h7, h8⟩ := Option.map_eq_some_iff.1 e
              exact pt v h8.symm
            · cases e
          · cases e
        · cases e
      · rename_i t x y hop; exact absurd (by simp [eatsT, eats, hop]) he
      · rename_i t parts hop; exact absurd (by simp [eatsT, eats, hop]) he
      · rename_i t len parts hop
        unfold buildSliceD at e
        split at e
        · rename_i el d hts hdst
          split at e
          · split at e
            · split at e
              · injection e with e
                rw [← hdst] at e
                exact pt _ e.symm
              · cases e
            · cases e
          · cases e
        · cases e
      · rename_i t l c hop; exact (makeSliceD_keeps (gone := []) (wr := []) e).tm u h1 (by simp)
      · rename_i c hop
        split at e
        · rename_i hc; exact absurd (by simp [eatsT, eats, hop, hc]) he
        · rename_i hc; exact (copyD_keeps (gone := []) (wr := argBoxes s c.args.toList) (fun _ h => h) e).tm u h1 (by simp)
        · rename_i hc; exact (clearD_keeps (gone := []) (wr := argBoxes s c.args.toList) (fun _ h => h) e).tm u h1 (by simp)
        · obtain ⟨d, h2, h3⟩ := Option.map_eq_some_iff.1 e
          exact pt d h3.symm
      · obtain ⟨d, h2, h3⟩ := Option.map_eq_some_iff.1 e
        exact pt d h3.symm
    · cases e
end Go.Proofs.Dm

set_option linter.unusedVariables false
set_option linter.unusedSimpArgs false
namespace Go.Proofs.Dm
open Go Go.RowKit

theorem writeBack_keep : ∀ {hp : List (List DV)} {ids : List Nat} {bs : List (List DV)} {j : Nat}, j < hp.length → j ∉ ids → (writeBack hp ids bs)[j]? = hp[j]? ∧ hp.length ≤ (writeBack hp ids bs).length
  | hp, [], bs, j, h, hn => by
    have : writeBack hp [] bs = hp ++ bs := by cases bs <;> rfl
    rw [this]; exact ⟨List.getElem?_append_left h, by simp⟩
  | hp, i :: is, [], j, h, hn => by simp [writeBack]
  | hp, i :: is, b :: bs, j, h, hn => by
    simp only [writeBack]
    have ih := writeBack_keep (hp := hp.set i b) (ids := is) (bs := bs) (j := j) (by simpa using h) (fun q => hn (by simp [q]))
    rw [ih.1, List.getElem?_set_ne (fun e => hn (by simp [e]))]
    exact ⟨rfl, by simpa using ih.2⟩
theorem writeBack_le : ∀ {hp : List (List DV)} {ids : List Nat} {bs : List (List DV)}, hp.length ≤ (writeBack hp ids bs).length
  | hp, [], bs => by
    have : writeBack hp [] bs = hp ++ bs := by cases bs <;> rfl
    rw [this]; simp
  | hp, i :: is, [] => by simp [writeBack]
  | hp, i :: is, b :: bs => by
    simp only [writeBack]
    have := writeBack_le (hp := hp.set i b) (ids := is) (bs := bs)
    simpa using this

theorem opTo_keeps {C n tk o s s'} (e : opTo C n tk o s s') : Keeps s s' o.dst (goneD tk o s) (wrD C.P tk o s) := by
  unfold opTo at e
  split at e
  · rename_i c hop
    split at e
    · rename_i x hc
      have hgd : goneD tk o s = goneL s (looksD o) := by simp [goneD, eatsT, eats, hop, hc]
      rw [hgd]
      obtain ⟨h0, f, cap, ds, sub, args, r, bs', h1, h2, h3, h4, h5, h6, h7, h8⟩ := e
      subst h8
      have hw : wrD C.P tk o s = reach s.hp (ds ++ cap) := by simp only [wrD, rdD, hop, hc, h1, h2]
      have k := keeps_put (s := { s.kills (given s c.args.toList) with hp := writeBack s.hp (reach s.hp (ds ++ cap)) (bs'.map (mapRefs (backId (reach s.hp (ds ++ cap)) s.hp.length))) }) (d := o.dst)
        (v := mapRef (backId (reach s.hp (ds ++ cap)) s.hp.length) r) (gone := goneL s (looksD o)) (wr := wrD C.P tk o s)
      refine ⟨fun u hu hg => ?_, fun j hj hwj => ?_, ?_⟩
      · unfold afterCall
        rw [k.tm u hu hg]
        simp only [St.kills]
        rw [if_neg]
        intro q
        have q : u ∈ given s c.args.toList := by simpa using q
        obtain ⟨q1, q2⟩ := given_mem.1 q
        exact hg (goneL_mem.2 ⟨mem_looks.2 (by rw [hop]; simp only [Op.operands, Call.operands, Array.toList_append, List.mem_append]; exact .inr q1), q2⟩)
      · unfold afterCall
        rw [hw] at hwj
        have q := writeBack_keep (bs := bs'.map (mapRefs (backId (reach s.hp (ds ++ cap)) s.hp.length))) hj hwj
        have : (({ s.kills (given s c.args.toList) with hp := writeBack s.hp (reach s.hp (ds ++ cap)) (bs'.map (mapRefs (backId (reach s.hp (ds ++ cap)) s.hp.length))) } : St).put o.dst (mapRef (backId (reach s.hp (ds ++ cap)) s.hp.length) r)).hp = writeBack s.hp (reach s.hp (ds ++ cap)) (bs'.map (mapRefs (backId (reach s.hp (ds ++ cap)) s.hp.length))) := by
          cases o.dst <;> rfl
        rw [this]; exact q.1
      · unfold afterCall
        have : (({ s.kills (given s c.args.toList) with hp := writeBack s.hp (reach s.hp (ds ++ cap)) (bs'.map (mapRefs (backId (reach s.hp (ds ++ cap)) s.hp.length))) } : St).put o.dst (mapRef (backId (reach s.hp (ds ++ cap)) s.hp.length) r)).hp = writeBack s.hp (reach s.hp (ds ++ cap)) (bs'.map (mapRefs (backId (reach s.hp (ds ++ cap)) s.hp.length))) := by
          cases o.dst <;> rfl
        rw [this]; exact writeBack_le
    · exact stepD_keeps' e
  · exact stepD_keeps' e

theorem gstep_keeps {C n ops o s s'} (e : gstep C n ops o s s') : Keeps s s' (labD C.P ops o s).dst (labD C.P ops o s).gone (labD C.P ops o s).wr := by
  obtain ⟨g, h1, h2, h3⟩ := e
  cases g with
  | true =>
    have hs : skips ops o s = false := by simp [skips, h1]
    simp only [if_true] at h3
    simp only [labD, hs, Bool.false_eq_true, if_false]
    exact opTo_keeps h3
  | false =>
    have hs : skips ops o s = true := by simp [skips, h1]
    simp only [Bool.false_eq_true, if_false] at h3
    subst h3
    simp only [labD, hs, if_true]
    exact keeps_put

/-! ### agreement -/
structure Agree (ops : List Oper) (o : Oper) (rd : List Nat) (s t : St) : Prop where
  tm : ∀ u ∈ looksG ops o, t.tm u = s.tm u
  hp : ∀ i ∈ rd, t.hp[i]? = s.hp[i]?

theorem agree_ev {ops o rd s t} (a : Agree ops o rd s t) : ∀ x ∈ o.op.operands.toList, evalD t x = evalD s x := by
  intro x hx
  cases x with
  | tmp u => simp only [evalD]; rw [a.tm u (by simp only [looksG, List.mem_append]; exact .inr (mem_looks.2 hx))]
  | _ => rfl
theorem agree_guard {ops o rd s t} (a : Agree ops o rd s t) : guardD ops.toArray o t = guardD ops.toArray o s := by
  unfold guardD
  split
  · rfl
  · rename_i j want hg
    split
    · rename_i u hu
      rw [a.tm u (by
        simp only [looksG, guardSlot, hg, List.mem_append]
        left
        simp only [List.getElem?_toArray] at hu
        rw [hu]; simp)]
    · rfl
theorem argsD_congr {s t : St} {all : List Operand} : ∀ {xs : List Operand}, (∀ x ∈ xs, evalD t x = evalD s x) → argsD t all xs = argsD s all xs
  | [], h => rfl
  | x :: xs, h => by simp only [argsD, h x (by simp), argsD_congr (xs := xs) (fun y hy => h y (by simp [hy]))]
theorem goneL_congr {s t : St} : ∀ {ts : List Tmp}, (∀ u ∈ ts, t.tm u = s.tm u) → goneL t ts = goneL s ts
  | [], h => rfl
  | x :: xs, h => by simp only [goneL, h x (by simp), goneL_congr (ts := xs) (fun y hy => h y (by simp [hy]))]
theorem anyOwn_congr {s t : St} : ∀ {ts : List Tmp}, (∀ u ∈ ts, t.tm u = s.tm u) → anyOwn t ts = anyOwn s ts
  | [], h => rfl
  | x :: xs, h => by simp only [anyOwn, h x (by simp), anyOwn_congr (ts := xs) (fun y hy => h y (by simp [hy]))]

theorem rdD_congr {ops o s t} (a : Agree ops o (rdD o s) s t) : rdD o t = rdD o s := by
  have ev := agree_ev a
  have hp := a.hp
  unfold rdD at hp ⊢
  split
  · rename_i ty x hop
    rw [ev x (by rw [hop]; simp [Op.operands])]
  · rename_i ty x y hop
    rw [ev x (by rw [hop]; simp [Op.operands])]
  · rename_i c hop
    split
    · rename_i x hc
      have h1 : calleeD t x = calleeD s x := by simp only [calleeD]; rw [ev x (by rw [hop]; simp [Op.operands, Call.operands, hc])]
      have h2 : argsD t c.args.toList c.args.toList = argsD s c.args.toList c.args.toList := argsD_congr fun y hy => ev y (by
        rw [hop]; simp only [Op.operands, Call.operands, Array.toList_append, List.mem_append]; exact .inr hy)
      rw [h1, h2]
      rw [hop] at hp
      simp only [hc] at hp
      split
      · rename_i f cap ds h3 h4
        rw [h3, h4] at hp
        exact reach_congr hp
      · rfl
    · exact argBoxes_congr fun y hy => ev y (by rw [hop]; simp only [Op.operands, Call.operands, Array.toList_append, List.mem_append]; exact .inr hy)
    · exact argBoxes_congr fun y hy => ev y (by rw [hop]; simp only [Op.operands, Call.operands, Array.toList_append, List.mem_append]; exact .inr hy)
    · exact argBoxes_congr fun y hy => ev y (by rw [hop]; simp only [Op.operands, Call.operands, Array.toList_append, List.mem_append]; exact .inr hy)
    · rfl
  · rfl
theorem wrD_congr {P ops tk o s t} (a : Agree ops o (rdD o s) s t) : wrD P tk o t = wrD P tk o s := by
  have ev := agree_ev a
  have hr := rdD_congr a
  have hp := a.hp
  unfold wrD
  split
  · rename_i ty x hop
    rw [ev x (by rw [hop]; simp [Op.operands])]
    split
    · rename_i id off h1
      rw [hp id (by simp [rdD, hop, h1])]
    · rfl
  · exact hr
theorem simpleD_congr {ops o rd s t} {tk : Bool} (a : Agree ops o rd s t) : simpleD tk o t = simpleD tk o s := by
  have : anyOwn t (looksD o) = anyOwn s (looksD o) := anyOwn_congr fun u hu => a.tm u (by simp only [looksG, List.mem_append]; exact .inr hu)
  unfold simpleD
  rw [this]
theorem ldD_congr {P ops o rd s t} (a : Agree ops o rd s t) : ldD P o t = ldD P o s := by
  have ev := agree_ev a
  unfold ldD
  split
  · rename_i ty x hop
    rw [ev x (by rw [hop]; simp [Op.operands])]
  · rfl
theorem mvD_congr {ops tk o rd s t} (a : Agree ops o rd s t) : mvD tk o t = mvD tk o s := by
  unfold mvD
  split
  · rename_i u hop
    rw [a.tm u (by simp only [looksG, List.mem_append]; exact .inr (by simp [looksD, hop, Op.operands]))]
  · rfl
theorem lab_congr {P ops o s t} (a : Agree ops o (labD P ops o s).rd s t) : labD P ops o t = labD P ops o s := by
  have hg : skips ops o t = skips ops o s := by simp only [skips, agree_guard a]
  unfold labD at a ⊢
  rw [hg]
  split
  · rfl
  · rename_i hs
    rw [if_neg hs] at a
    dsimp only at a
    have hgd : goneD (takes ops o) o t = goneD (takes ops o) o s := by
      simp only [goneD]
      rw [goneL_congr fun u hu => a.tm u (by simp only [looksG, List.mem_append]; exact .inr hu)]
    rw [rdD_congr a, wrD_congr a, simpleD_congr a, hgd, ldD_congr a, mvD_congr a]

/-! ### what is not felt -/
theorem stepD_mu {P n tk o dx v ib s s'} (hl : dx ∉ looksD o) (hd : o.dst ≠ some dx) (hr : ∀ i ∈ rdD o s, offBox ib i) (hb : ∀ j b, ib = some (j, b) → j < s.hp.length)
    (e : stepD P n tk o s = some s') : stepD P n tk o (mu dx v ib s) = some (mu dx v ib s') := by
  have ev := ev_mu (dx := dx) (v := v) (ib := ib) (s := s) hl
  have ne : ∀ x ∈ o.op.operands.toList, x ≠ .tmp dx := fun x hx q => hl (mem_looks.2 (by rw [← q]; exact hx))
  unfold stepD at e ⊢
  split at e
  · rename_i h0
    try rw [if_pos h0]
    split at e
    · rename_i x hop; exact moveD_mu hl hd (by rw [hop]; simp [Op.operands]) e
    · rename_i x hop; exact moveD_mu hl hd (by rw [hop]; simp [Op.operands]) e
    · rename_i t hop; exact allocD_mu hd hb e
    · rename_i t x hop; exact boxD_mu (ne x (by rw [hop]; simp [Op.operands])) hd hb e
    · rename_i t x hop; exact loadD_mu (ne x (by rw [hop]; simp [Op.operands])) hd (fun id off h => hr id (by simp [rdD, hop, h])) e
    · rename_i t x y hop; exact storeD_mu (ne x (by rw [hop]; simp [Op.operands])) (ne y (by rw [hop]; simp [Op.operands])) (fun id off h => hr id (by simp [rdD, hop, h])) e
    · rename_i t parts hop
      have hp : ∀ p ∈ parts.toList, p.2 ≠ .tmp dx := fun p hp => ne p.2 (by rw [hop]; simp only [Op.operands, List.toList_toArray, List.mem_map]; exact ⟨p, hp, rfl⟩)
      refine buildD_mu hp hd (fun pl zc cells ts off h => ?_) e
      rcases stepD_keeps.fillD_owner _ _ _ _ _ _ h with q | ⟨i, q1, q2⟩
      · cases q
      · intro q; exact hp _ q1 (by rw [q])
    · rename_i t len parts hop
      exact buildSliceD_mu (fun p hp => ne p.2 (by rw [hop]; simp only [Op.operands, List.toList_toArray, List.mem_map]; exact ⟨p, hp, rfl⟩)) hd e
    · rename_i t l c hop; exact makeSliceD_mu (ne l (by rw [hop]; simp [Op.operands])) (ne c (by rw [hop]; simp [Op.operands])) hd hb e
    · rename_i c hop
      have nec : ∀ x ∈ c.args.toList, x ≠ .tmp dx := fun x hx => ne x (by rw [hop]; simp only [Op.operands, Call.operands, Array.toList_append, List.mem_append]; exact .inr hx)
      have evc : ∀ x ∈ c.args.toList, evalD (mu dx v ib s) x = evalD s x := fun x hx => ev x (by rw [hop]; simp only [Op.operands, Call.operands, Array.toList_append, List.mem_append]; exact .inr hx)
      split at e
      · rename_i hc
        try simp only [hc]
        rw [needA_congr evc]
        split at e
        · rename_i hna
          rw [if_pos hna]
          exact appendA_mu nec hd (fun i hi => hr i (by simp only [rdD, hop, hc]; exact hi)) hb e
        rename_i hna
        rw [if_neg hna]
        exact appendD_mu (fun x hx => ne x (by rw [hop]; simp only [Op.operands, Call.operands, Array.toList_append, List.mem_append]; exact .inr hx)) hd e
      · rename_i hc
        try simp only [hc]
        exact copyD_mu nec hd (fun i hi => hr i (by simp only [rdD, hop, hc]; exact hi)) e
      · rename_i hc
        try simp only [hc]
        exact clearD_mu nec hd (fun i hi => hr i (by simp only [rdD, hop, hc]; exact hi)) e
      · rename_i hc
        obtain ⟨d, h1, h2⟩ := Option.map_eq_some_iff.1 e
        subst h2
        have : callD P (evalD (mu dx v ib s)) c = callD P (evalD s) c := callD_congr fun x hx => ev x (by rw [hop]; simpa only [Op.operands] using hx)
        rw [this, h1]; simp only [Option.map_some, put_mu hd]
    · obtain ⟨d, h1, h2⟩ := Option.map_eq_some_iff.1 e
      subst h2
      have : pureD P (evalD (mu dx v ib s)) o.op = pureD P (evalD s) o.op := pureD_congr ev
      rw [this, h1]; simp only [Option.map_some, put_mu hd]
  · cases e

theorem gstep_mu {C n ops o dx v ib s s'} (hl : dx ∉ looksG ops o) (hd : o.dst ≠ some dx) (hr : ∀ i ∈ (labD C.P ops o s).rd, offBox ib i) (hb : ∀ j b, ib = some (j, b) → j < s.hp.length)
    (e : gstep C n ops o s s') : gstep C n ops o (mu dx v ib s) (mu dx v ib s') := by
  have hl' : dx ∉ looksD o := fun q => hl (by simp only [looksG, List.mem_append]; exact .inr q)
  obtain ⟨g, h1, h2, h3⟩ := e
  have hg : guardD ops.toArray o (mu dx v ib s) = guardD ops.toArray o s := by
    refine agree_guard (rd := []) (s := s) ⟨fun u hu => tm_mu (fun q => hl (by rw [← q]; exact hu)), by simp⟩
  refine ⟨g, by rw [hg]; exact h1, h2, ?_⟩
  cases g with
  | false =>
    simp only [Bool.false_eq_true, if_false] at h3 ⊢
    subst h3
    exact (put_mu hd).symm
  | true =>
    have hs : skips ops o s = false := by simp [skips, h1]
    simp only [labD, hs, Bool.false_eq_true, if_false] at hr
    simp only [if_true] at h3 ⊢
    unfold opTo at h3 ⊢
    split at h3
    · rename_i c hop
      split at h3
      · rename_i x hc
        have ne : ∀ y ∈ o.op.operands.toList, y ≠ .tmp dx := fun y hy q => hl' (mem_looks.2 (by rw [← q]; exact hy))
        refine callTo_mu (ne x (by rw [hop]; simp [Op.operands, Call.operands, hc])) (fun y hy => ne y (by rw [hop]; simp only [Op.operands, Call.operands, Array.toList_append, List.mem_append]; exact .inr hy)) hd hb ?_ h3
        intro f cap ds k1 k2 i hi
        exact hr i (by simp only [rdD, hop, hc, k1, k2]; exact hi)
      · exact stepD_mu hl' hd hr hb h3
    · exact stepD_mu hl' hd hr hb h3
end Go.Proofs.Dm
