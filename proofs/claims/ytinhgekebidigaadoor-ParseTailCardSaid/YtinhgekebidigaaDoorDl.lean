/- The D-machine, part U: what is reckoned by simp. -/
import Derived.Test.YtinhgekebidigaaDoorDk
set_option linter.unusedVariables false
set_option linter.unusedSimpArgs false
namespace Go.Proofs.Dm
open Go Go.RowKit

/-! ### goals with their ways on shut -/
def BindGoal (o : Option St) (k : St → Prop) : Prop := match o with
  | some s => k s
  | none => False
def TestGoal (d : Option DV) (a b : St → Prop) (s : St) : Prop := match d with
  | some (.p (.bool t)) => IfGoal t a b s
  | _ => False
def GuardGoal (d : Option DV) (want : Bool) (a b : St → Prop) (s : St) : Prop := match d with
  | some (.p (.bool t)) => IfGoal (t == want) a b s
  | some .ud => b s
  | _ => False
def PrepGoal (C : Ctx) (p : Option (FuncId × List DV × List Nat × List (List DV) × List Tmp)) (k : St → Prop) (s : St) (dst : Option Tmp) : Prop := match p with
  | some (f, a, ids, sub, gone) => CallGoal C f a sub k s dst gone ids
  | none => False
def callV : Op → Option (Operand × List Operand)
  | .call c => match c.callee with
    | .value x => some (x, c.args.toList)
    | _ => none
  | _ => none
def WayGoal (C : Ctx) (n : Nat) (tk : Bool) (o : Oper) (k : St → Prop) (s : St) (w : Option (Operand × List Operand)) : Prop := match w with
  | some (x, as) => PrepGoal C (callPrep s x as) k s o.dst
  | none => BindGoal (stepD C.P n tk o s) k
def guardV (ops : List Oper) (j : Nat) (s : St) : Option DV := ((ops[j]?).bind (·.dst)).map s.tm
def SeqK (K : St → Prop) (Q : DX → St → Prop) : DX → St → Prop := fun e s => match e with
  | .norm => K s
  | e => Q e s
def BlockK (id : Nat) (Q : DX → St → Prop) : DX → St → Prop := fun e s => match e with
  | .exit j => if j = id then Q .norm s else Q (.exit j) s
  | e => Q e s
def LoopK (I : Nat → St → Prop) (k0 m : Nat) (Q : DX → St → Prop) : DX → St → Prop := fun e s => match e with
  | .norm => RoundEnd I k0 m s
  | e => Q e s
def LoopGoal (C : Ctx) (n : Nat) (c : Code) (Q : DX → St → Prop) (s0 : St) : Prop := ∃ (I : Nat → St → Prop) (m : Nat), Start I m s0 ∧ ∀ m s, I m s → cwp C n c (LoopK I s0.hp.length m Q) s
def OutGoal : Prop := False
/-- A function's end. -/
def EndGoal (P : Program) (n0 : Nat) (rv : List ResultVar) (r : DV) (bs' : List (List DV)) (s0 : St) : Prop :=
  ∃ s, Gh n0 s0 s ∧ ∃ rr m, resD P n0 s rv = some rr ∧ Wk rr r ∧ n0 ≤ m ∧ m ≤ s.hp.length ∧ bs' = s.hp.take m ∧ (∀ i ∈ refsD r, i < m) ∧ (∀ b ∈ bs', ∀ i ∈ refsDs b, i < m) ∧ (isCell1 rv = true → m = n0)
def EndK (P : Program) (n0 : Nat) (rv : List ResultVar) (r : DV) (bs' : List (List DV)) : DX → St → Prop := fun e s => match e with
  | .norm => EndGoal P n0 rv r bs' s
  | .ret => EndGoal P n0 rv r bs' s
  | _ => False

/-! ### nothing looks behind them -/
@[congr] theorem cwp_congr {C n c Q s s'} (h : s = s') : cwp C n c Q s = cwp C n c Q s' := by rw [h]
@[congr] theorem opsWp_congr {C n a b k s s'} (h : s = s') : opsWp C n a b k s = opsWp C n a b k s' := by rw [h]
@[congr] theorem opWp_congr {C n a b k s s'} (h : s = s') : opWp C n a b k s = opWp C n a b k s' := by rw [h]
@[congr] theorem opsLab_congr {C n a b c k s s'} (h : s = s') : opsLab C n a b c k s = opsLab C n a b c k s' := by rw [h]
@[congr] theorem drawWp_congr {C n a k s s'} (h : s = s') : drawWp C n a k s = drawWp C n a k s' := by rw [h]
@[congr] theorem IfGoal_congr {t t' : Bool} {a b s s'} (h : t = t') (hs : s = s') : IfGoal t a b s = IfGoal t' a b s' := by rw [h, hs]
@[congr] theorem TestGoal_congr {t t' : Option DV} {a b s s'} (h : t = t') (hs : s = s') : TestGoal t a b s = TestGoal t' a b s' := by rw [h, hs]
@[congr] theorem GuardGoal_congr {t t' : Option DV} {w a b s s'} (h : t = t') (hs : s = s') : GuardGoal t w a b s = GuardGoal t' w a b s' := by rw [h, hs]
@[congr] theorem BindGoal_congr {t t' : Option St} {a} (h : t = t') : BindGoal t a = BindGoal t' a := by rw [h]
@[congr] theorem PrepGoal_congr {C t t' a s s' d} (h : t = t') (hs : s = s') : PrepGoal C t a s d = PrepGoal C t' a s' d := by rw [h, hs]
@[congr] theorem WayGoal_congr {C n tk o k s s' w w'} (h : s = s') (hw : w = w') : WayGoal C n tk o k s w = WayGoal C n tk o k s' w' := by rw [h, hw]
@[congr] theorem CallGoal_congr {C f a a' b b' k s s' dst gone gone' ids ids'} (ha : a = a') (hb : b = b') (h : s = s') (hg : gone = gone') (hi : ids = ids') : CallGoal C f a b k s dst gone ids = CallGoal C f a' b' k s' dst gone' ids' := by rw [ha, hb, h, hg, hi]
@[congr] theorem LabGoal_congr {ps ls m k labs s s'} (h : s = s') : LabGoal ps ls m k labs s = LabGoal ps ls m k labs s' := by rw [h]
@[congr] theorem LabGoal2_congr {ps ls m k labs s s'} (h : s = s') : LabGoal2 ps ls m k labs s = LabGoal2 ps ls m k labs s' := by rw [h]
@[congr] theorem LoopGoal_congr {C n c Q s s'} (h : s = s') : LoopGoal C n c Q s = LoopGoal C n c Q s' := by rw [h]
@[congr] theorem EndGoal_congr {P n0 rv r bs' s s'} (h : s = s') : EndGoal P n0 rv r bs' s = EndGoal P n0 rv r bs' s' := by rw [h]
@[congr] theorem takes_congr {ops o} : takes ops o = takes ops o := rfl
@[congr] theorem stepD_congr {P n tk o s s'} (h : s = s') : stepD P n tk o s = stepD P n tk o s' := by rw [h]
@[congr] theorem guardV_congr {ops j s s'} (h : s = s') : guardV ops j s = guardV ops j s' := by rw [h]
@[congr] theorem SeqK_congr {K Q e e' s s'} (he : e = e') (h : s = s') : SeqK K Q e s = SeqK K Q e' s' := by rw [h, he]
@[congr] theorem BlockK_congr {i Q e e' s s'} (he : e = e') (h : s = s') : BlockK i Q e s = BlockK i Q e' s' := by rw [h, he]
@[congr] theorem LoopK_congr {I k0 m Q e e' s s'} (he : e = e') (h : s = s') : LoopK I k0 m Q e s = LoopK I k0 m Q e' s' := by rw [h, he]
@[congr] theorem RoundEnd_congr {I k0 m s s'} (h : s = s') : RoundEnd I k0 m s = RoundEnd I k0 m s' := by rw [h]
theorem RoundEnd.same {I : Nat → St → Prop} {k0 m : Nat} {s : St} (m' : Nat) (h1 : m' < m) (h2 : I m' s) : RoundEnd I k0 m s := ⟨m', s, h1, Gh.refl _ _, h2⟩
theorem RoundEnd.drop {I : Nat → St → Prop} {k0 m : Nat} {s : St} (m' : Nat) (h1 : m' < m) (k : Nat) (h3 : k0 ≤ k) (h4 : k ≤ s.hp.length) (h5 : ((s.hp.take k).all fun b => (refsDs b).all (· < k)) = true) (h2 : I m' (dropSt k s)) : RoundEnd I k0 m s :=
  ⟨m', _, h1, Gh.drop k h3 h4 h5, h2⟩
theorem RoundEnd.by {I : Nat → St → Prop} {k0 m : Nat} {s s' : St} (m' : Nat) (h1 : m' < m) (g : Gh k0 s s') (h2 : I m' s') : RoundEnd I k0 m s := ⟨m', s', h1, g, h2⟩
@[congr] theorem EndK_congr {P n0 rv r bs' e e' s s'} (he : e = e') (h : s = s') : EndK P n0 rv r bs' e s = EndK P n0 rv r bs' e' s' := by rw [h, he]

/-! ### their laws -/
@[simp] theorem BindGoal_some {s k} : BindGoal (some s) k = k s := rfl
@[simp] theorem BindGoal_none {k} : BindGoal none k = False := rfl
@[simp] theorem TestGoal_bool {t a b s} : TestGoal (some (.p (.bool t))) a b s = IfGoal t a b s := rfl
@[simp] theorem GuardGoal_t {t a b s} : GuardGoal (some (.p (.bool t))) true a b s = IfGoal t a b s := by cases t <;> rfl
@[simp] theorem GuardGoal_f {t a b s} : GuardGoal (some (.p (.bool t))) false a b s = IfGoal t b a s := by cases t <;> rfl
@[simp] theorem GuardGoal_ud {w a b s} : GuardGoal (some .ud) w a b s = b s := rfl
@[simp] theorem PrepGoal_some {C f a ids sub gone k s dst} : PrepGoal C (some (f, a, ids, sub, gone)) k s dst = CallGoal C f a sub k s dst gone ids := rfl
@[simp] theorem PrepGoal_none {C k s dst} : PrepGoal C none k s dst = False := rfl
@[simp] theorem WayGoal_some {C n tk o k s x as} : WayGoal C n tk o k s (some (x, as)) = PrepGoal C (callPrep s x as) k s o.dst := rfl
@[simp] theorem WayGoal_none {C n tk o k s} : WayGoal C n tk o k s none = BindGoal (stepD C.P n tk o s) k := rfl
theorem IfGoal_not (t : Bool) (a b : St → Prop) (s : St) : IfGoal (!t) a b s = IfGoal t b a s := by cases t <;> simp [IfGoal]
@[simp] theorem SeqK_norm {K Q s} : SeqK K Q .norm s = K s := rfl
@[simp] theorem SeqK_exit {K Q s i} : SeqK K Q (.exit i) s = Q (.exit i) s := rfl
@[simp] theorem SeqK_goto {K Q s i} : SeqK K Q (.goto i) s = Q (.goto i) s := rfl
@[simp] theorem SeqK_ret {K Q s} : SeqK K Q .ret s = Q .ret s := rfl
@[simp] theorem BlockK_norm {i Q s} : BlockK i Q .norm s = Q .norm s := rfl
@[simp] theorem BlockK_exit {i j Q s} : BlockK i Q (.exit j) s = if j = i then Q .norm s else Q (.exit j) s := rfl
@[simp] theorem BlockK_goto {i j Q s} : BlockK i Q (.goto j) s = Q (.goto j) s := rfl
@[simp] theorem BlockK_ret {i Q s} : BlockK i Q .ret s = Q .ret s := rfl
@[simp] theorem LoopK_norm {I k0 m Q s} : LoopK I k0 m Q .norm s = RoundEnd I k0 m s := rfl
@[simp] theorem LoopK_exit {I k0 m j Q s} : LoopK I k0 m Q (.exit j) s = Q (.exit j) s := rfl
@[simp] theorem LoopK_ret {I k0 m Q s} : LoopK I k0 m Q .ret s = Q .ret s := rfl
@[simp] theorem EndK_norm {P n0 rv r bs' s} : EndK P n0 rv r bs' .norm s = EndGoal P n0 rv r bs' s := rfl
@[simp] theorem EndK_ret {P n0 rv r bs' s} : EndK P n0 rv r bs' .ret s = EndGoal P n0 rv r bs' s := rfl

@[simp ↓] theorem cwp_skip {C n Q s} : cwp C n .skip Q s = Q .norm s := rfl
@[simp ↓] theorem cwp_label {C n l Q s} : cwp C n (.label l) Q s = Q .norm s := rfl
@[simp ↓] theorem cwp_region {C n i ops Q s} : cwp C n (.region i ⟨ops⟩ false) Q s = opsWp C n ops ops (Q .norm) s := rfl
@[simp ↓] theorem cwp_draw {C n i ops Q s} : cwp C n (.region i ⟨ops⟩ true) Q s = drawWp C n ops (Q .norm) s := rfl
@[simp ↓] theorem cwp_seq {C n a b Q s} : cwp C n (.seq a b) Q s = cwp C n a (SeqK (cwp C n b Q) Q) s := rfl
@[simp ↓] theorem cwp_cond {C n c a b Q s} : cwp C n (.cond c a b) Q s = TestGoal (evalD s c) (cwp C n a Q) (cwp C n b Q) s := rfl
@[simp ↓] theorem cwp_block {C n i c Q s} : cwp C n (.block i c) Q s = cwp C n c (BlockK i Q) s := rfl
@[simp ↓] theorem cwp_loop {C n c Q s} : cwp C n (.loop c) Q s = LoopGoal C n c Q s := rfl
@[simp ↓] theorem cwp_exit {C n i Q s} : cwp C n (.exit i) Q s = Q (.exit i) s := rfl
@[simp ↓] theorem cwp_goto {C n i Q s} : cwp C n (.goto i) Q s = Q (.goto i) s := rfl
@[simp ↓] theorem cwp_ret {C n Q s} : cwp C n .ret Q s = Q .ret s := rfl
@[simp ↓] theorem opsWp_nil {C n ops k s} : opsWp C n ops [] k s = k s := by simp only [opsWp]
theorem opWp_eq {C n tk o k s} : opWp C n tk o k s = WayGoal C n tk o k s (callV o.op) := by
  unfold opWp
  cases h : o.op with
  | call c =>
    dsimp only [callV]
    cases h2 : c.callee with
    | value x =>
      dsimp only [WayGoal, PrepGoal]
      cases callPrep s x c.args.toList with
      | none => rfl
      | some p => rfl
    | _ => dsimp only [WayGoal, BindGoal]; cases stepD C.P n tk o s <;> rfl
  | _ => dsimp only [callV, WayGoal, BindGoal]; cases stepD C.P n tk o s <;> rfl
@[simp ↓] theorem opsWp_plain {C n ops dst op ty pos after rest k s} : opsWp C n ops (⟨dst, op, ty, pos, after, none⟩ :: rest) k s = (dstOk n dst = true ∧ WayGoal C n (takes ops ⟨dst, op, ty, pos, after, none⟩) ⟨dst, op, ty, pos, after, none⟩ (opsWp C n ops rest k) s (callV op)) := by
  simp only [opsWp, opWp_eq]
@[simp ↓] theorem opsLab_plain {C n ops dst op ty pos after rest acc k s} : opsLab C n ops (⟨dst, op, ty, pos, after, none⟩ :: rest) acc k s = (dstOk n dst = true ∧ WayGoal C n (takes ops ⟨dst, op, ty, pos, after, none⟩) ⟨dst, op, ty, pos, after, none⟩ (opsLab C n ops rest (acc ++ [labD C.P ops ⟨dst, op, ty, pos, after, none⟩ s]) k) s (callV op)) := by
  simp only [opsLab, opWp_eq]
@[simp ↓] theorem opsLab_nil {C n ops acc k s} : opsLab C n ops [] acc k s = k acc s := by simp only [opsLab]
/-- A guarded operation: the slot, the way through and the way round. -/
def NotGoal (K : St → Prop) (d : Option Tmp) : St → Prop := fun s => K (s.put d .ud)
def DoGoal (C : Ctx) (n : Nat) (tk : Bool) (o : Oper) (k : St → Prop) : St → Prop := fun s => WayGoal C n tk o k s (callV o.op)
@[simp ↓] theorem opsWp_g {C n ops dst op ty pos after rest k s j want} : opsWp C n ops (⟨dst, op, ty, pos, after, some (j, want)⟩ :: rest) k s =
    (dstOk n dst = true ∧ GuardGoal (guardV ops j s) want (DoGoal C n (takes ops ⟨dst, op, ty, pos, after, some (j, want)⟩) ⟨dst, op, ty, pos, after, some (j, want)⟩ (opsWp C n ops rest k)) (NotGoal (opsWp C n ops rest k) dst) s) := by
  simp only [opsWp, guardV]
  cases h : ops[j]? with
  | none => simp [GuardGoal]
  | some q =>
    cases hq : q.dst with
    | none => simp [GuardGoal, hq]
    | some t =>
      simp only [Option.bind_some, hq, Option.map_some]
      cases ht : s.tm t <;> try (simp [GuardGoal, NotGoal]; done)
      rename_i x
      cases x <;> simp [GuardGoal, DoGoal, NotGoal, opWp_eq, IfGoal]
@[simp ↓] theorem opsLab_g {C n ops dst op ty pos after rest acc k s j want} : opsLab C n ops (⟨dst, op, ty, pos, after, some (j, want)⟩ :: rest) acc k s =
    (dstOk n dst = true ∧ GuardGoal (guardV ops j s) want (DoGoal C n (takes ops ⟨dst, op, ty, pos, after, some (j, want)⟩) ⟨dst, op, ty, pos, after, some (j, want)⟩ (opsLab C n ops rest (acc ++ [labD C.P ops ⟨dst, op, ty, pos, after, some (j, want)⟩ s]) k)) (NotGoal (opsLab C n ops rest (acc ++ [labD C.P ops ⟨dst, op, ty, pos, after, some (j, want)⟩ s]) k) dst) s) := by
  simp only [opsLab, guardV]
  cases h : ops[j]? with
  | none => simp [GuardGoal]
  | some q =>
    cases hq : q.dst with
    | none => simp [GuardGoal, hq]
    | some t =>
      simp only [Option.bind_some, hq, Option.map_some]
      cases ht : s.tm t <;> try (simp [GuardGoal, NotGoal]; done)
      rename_i x
      cases x <;> simp [GuardGoal, DoGoal, NotGoal, opWp_eq, IfGoal]
@[congr] theorem NotGoal_congr {K d s s'} (h : s = s') : NotGoal K d s = NotGoal K d s' := by rw [h]
@[congr] theorem DoGoal_congr {C n tk o k s s'} (h : s = s') : DoGoal C n tk o k s = DoGoal C n tk o k s' := by rw [h]
@[simp] theorem NotGoal_eq {K d s} : NotGoal K d s = K (s.put d .ud) := rfl
@[simp] theorem DoGoal_eq {C n tk o k s} : DoGoal C n tk o k s = WayGoal C n tk o k s (callV o.op) := rfl

@[simp] theorem LabGoal_nil {m k labs s} : LabGoal [] [] m k labs s = k s := by simp [LabGoal, pairsOK, lowOK, allLt]
theorem Wks.same : ∀ (ds : List DV), Wks ds ds
  | [] => .nil
  | d :: ds => .cons (.refl d) (Wks.same ds)
theorem CallGoal.same {C : Ctx} {f : FuncId} {a : List DV} {sub : List (List DV)} {k : St → Prop} {s : St} {dst : Option Tmp} {gone : List Tmp} {ids : List Nat} {r bs'}
    (hd : DCalls C f a sub r bs') (hk : k (afterCall s dst gone ids r bs')) : CallGoal C f a sub k s dst gone ids := .intro hd (Wks.same a) hk
theorem IfGoal.mono {t a b a' b' s} (h : IfGoal t a b s) (h1 : a s → a' s) (h2 : b s → b' s) : IfGoal t a' b' s := by
  cases t
  · rw [IfGoal_false] at h ⊢; exact h2 h
  · rw [IfGoal_true] at h ⊢; exact h1 h
theorem opWp_mono {C n tk o} {k k' : St → Prop} {s : St} (hk : ∀ s, k s → k' s) (h : opWp C n tk o k s) : opWp C n tk o k' s := by
  rw [opWp_eq] at h ⊢
  unfold WayGoal at h ⊢
  split at h
  · unfold PrepGoal at h ⊢
    split at h
    · obtain ⟨args, r, bs', h1, h2, h3⟩ := h
      exact ⟨args, r, bs', h1, h2, hk _ h3⟩
    · exact h
  · unfold BindGoal at h ⊢
    split at h
    · exact hk _ h
    · exact h
theorem opsWp_mono {C n ops} : ∀ {l : List Oper} {k k' : St → Prop} {s : St}, (∀ s, k s → k' s) → opsWp C n ops l k s → opsWp C n ops l k' s
  | [], k, k', s, hk, h => hk _ h
  | o :: rest, k, k', s, hk, h => by
    simp only [opsWp] at h ⊢
    split at h
    · exact ⟨h.1, opWp_mono (fun s q => opsWp_mono hk q) h.2⟩
    · split at h
      · split at h
        · exact ⟨h.1, h.2.mono (fun q => opWp_mono (fun s q => opsWp_mono hk q) q) (fun q => opsWp_mono hk q)⟩
        · exact ⟨h.1, opsWp_mono hk h.2⟩
        · exact h
      · exact h
theorem opsLab_mono {C n ops} : ∀ {l : List Oper} {acc : List Lab} {k k' : List Lab → St → Prop} {s : St}, (∀ a s, k a s → k' a s) → opsLab C n ops l acc k s → opsLab C n ops l acc k' s
  | [], acc, k, k', s, hk, h => hk _ _ h
  | o :: rest, acc, k, k', s, hk, h => by
    simp only [opsLab] at h ⊢
    split at h
    · exact ⟨h.1, opWp_mono (fun s q => opsLab_mono hk q) h.2⟩
    · split at h
      · split at h
        · exact ⟨h.1, h.2.mono (fun q => opWp_mono (fun s q => opsLab_mono hk q) q) (fun q => opsLab_mono hk q)⟩
        · exact ⟨h.1, opsLab_mono hk h.2⟩
        · exact h
      · exact h
theorem cwp_mono {C n} : ∀ (c : Code) {Q Q' : DX → St → Prop} {s : St}, (∀ e s, Q e s → Q' e s) → cwp C n c Q s → cwp C n c Q' s
  | .skip, Q, Q', s, q, e => q _ _ e
  | .label _, Q, Q', s, q, e => q _ _ e
  | .exit id, Q, Q', s, q, e => q _ _ e
  | .goto l, Q, Q', s, q, e => q _ _ e
  | .ret, Q, Q', s, q, e => q _ _ e
  | .region id ops draw, Q, Q', s, q, e => by
    simp only [cwp] at e ⊢
    split at e
    · rename_i hd
      rw [if_pos hd]
      exact ⟨e.1, e.2.1, e.2.2.imp (opsLab_mono fun a s h => ⟨h.1, h.2.1, q _ _ h.2.2⟩) (opsLab_mono fun a s h => ⟨h.1, h.2.1, h.2.2.1, q _ _ h.2.2.2⟩)⟩
    · rename_i hd
      rw [if_neg hd]
      exact opsWp_mono (q _) e
  | .seq c d, Q, Q', s, q, e => by
    simp only [cwp] at e ⊢
    refine cwp_mono c (fun x s' h => ?_) e
    cases x <;> first | exact cwp_mono d q h | exact q _ _ h
  | .cond c x y, Q, Q', s, q, e => by
    simp only [cwp] at e ⊢
    split at e
    · exact e.mono (cwp_mono x q) (cwp_mono y q)
    · exact e
  | .block id c, Q, Q', s, q, e => by
    simp only [cwp] at e ⊢
    refine cwp_mono c (fun x s' h => ?_) e
    cases x with
    | exit i =>
      dsimp only at h ⊢
      split
      · rename_i hi; rw [if_pos hi] at h; exact q _ _ h
      · rename_i hi; rw [if_neg hi] at h; exact q _ _ h
    | _ => exact q _ _ h
  | .loop c, Q, Q', s, q, e => by
    simp only [cwp] at e ⊢
    obtain ⟨I, m, h1, h2⟩ := e
    refine ⟨I, m, h1, fun m s hI => cwp_mono c (fun x s' h => ?_) (h2 m s hI)⟩
    cases x <;> first | exact h | exact q _ _ h
  | .rangeFunc _ _ _ _, Q, Q', s, q, e => by simp [cwp] at e
  | .scope _, Q, Q', s, q, e => by simp [cwp] at e
  | .refuse _, Q, Q', s, q, e => by simp [cwp] at e
theorem SeqK_mono {K K' : St → Prop} {Q : DX → St → Prop} (h : ∀ s, K s → K' s) : ∀ e s, SeqK K Q e s → SeqK K' Q e s := by
  intro e s q
  cases e <;> first | exact h _ q | exact q
theorem BlockK_mono {i : Nat} {Q Q' : DX → St → Prop} (h : ∀ e s, Q e s → Q' e s) : ∀ e s, BlockK i Q e s → BlockK i Q' e s := by
  intro e s q
  cases e with
  | exit j =>
    simp only [BlockK] at q ⊢
    split
    · rename_i hi; rw [if_pos hi] at q; exact h _ _ q
    · rename_i hi; rw [if_neg hi] at q; exact h _ _ q
  | _ => exact h _ _ q
theorem cwp_cut {C n a b Q s} (J : St → Prop) (h1 : cwp C n a (SeqK J Q) s) (h2 : ∀ s, J s → cwp C n b Q s) : cwp C n (.seq a b) Q s := by
  rw [cwp_seq]; exact cwp_mono a (SeqK_mono h2) h1
/-- A loop's end, cut: what lies behind it is walked once. -/
theorem LoopGoal.cut {C n c i Q s} {K : St → Prop} (J : St → Prop) (h1 : LoopGoal C n c (BlockK i (SeqK J Q)) s) (h2 : ∀ s, J s → K s) : LoopGoal C n c (BlockK i (SeqK K Q)) s := by
  obtain ⟨I, m, g1, g2⟩ := h1
  refine ⟨I, m, g1, fun m s hI => cwp_mono c (fun e s' q => ?_) (g2 m s hI)⟩
  cases e with
  | norm => exact q
  | exit j => exact (BlockK_mono (SeqK_mono h2) (.exit j) s' q : BlockK i (SeqK K Q) (.exit j) s')
  | goto j => exact (BlockK_mono (SeqK_mono h2) (.goto j) s' q : BlockK i (SeqK K Q) (.goto j) s')
  | ret => exact (BlockK_mono (SeqK_mono h2) .ret s' q : BlockK i (SeqK K Q) .ret s')
/-- The same for a test: both ways meet. -/
theorem IfGoal.cut {C n a b Q s} {t : Bool} {K : St → Prop} (J : St → Prop) (h1 : IfGoal t (cwp C n a (SeqK J Q)) (cwp C n b (SeqK J Q)) s) (h2 : ∀ s, J s → K s) : IfGoal t (cwp C n a (SeqK K Q)) (cwp C n b (SeqK K Q)) s :=
  h1.mono (cwp_mono a (SeqK_mono h2)) (cwp_mono b (SeqK_mono h2))
theorem cwp_eqv {C n c Q Q' s} (h : ∀ e s, Q e s ↔ Q' e s) : cwp C n c Q s → cwp C n c Q' s := by
  have : Q = Q' := by funext e s; exact propext (h e s)
  rw [this]; exact id
theorem EndGoal.keep {P n0 rv r bs' s rr} (h1 : resD P n0 s rv = some rr) (h2 : Wk rr r) (h3 : n0 ≤ s.hp.length) (h4 : bs' = s.hp.take n0) (h5 : (refsD r).all (· < n0) = true) (h6 : (bs'.all fun b => (refsDs b).all (· < n0)) = true) : EndGoal P n0 rv r bs' s :=
  ⟨s, Gh.refl _ _, rr, n0, h1, h2, Nat.le_refl _, h3, h4, by simpa using h5, by simpa using h6, fun _ => rfl⟩
theorem EndGoal.by {P n0 rv r bs' s s'} (g : Gh n0 s s') (h : EndGoal P n0 rv r bs' s') : EndGoal P n0 rv r bs' s := by
  obtain ⟨s2, g2, h⟩ := h
  exact ⟨s2, g.trans g2, h⟩
/-- New boxes are handed out too. -/
theorem EndGoal.all {P n0 rv r bs' s rr} (h1 : resD P n0 s rv = some rr) (h2 : Wk rr r) (h3 : n0 ≤ s.hp.length) (h4 : bs' = s.hp) (h5 : (refsD r).all (· < s.hp.length) = true) (h6 : (bs'.all fun b => (refsDs b).all (· < s.hp.length)) = true) (h7 : isCell1 rv = false) : EndGoal P n0 rv r bs' s :=
  ⟨s, Gh.refl _ _, rr, s.hp.length, h1, h2, h3, Nat.le_refl _, by simpa using h4, by simpa using h5, by simpa using h6, fun h => by rw [h7] at h; cases h⟩
theorem dcalls_end {P : Program} {W0 : World} {nb : Nat} {f : FuncId} {fn : Func} {c : Code} (hf : P.funcs[f]? = some fn) (hb : fn.body = some c) (hname : (fn.name == "runtime.NumGoroutine") = false) {args : List DV} {bs : List (List DV)} {r : DV} {bs' : List (List DV)}
    (k : Nat) (hk : fn.ntmps = k) (rv : Array ResultVar) (hr : fn.results = rv) (hn : args.length ≤ k)
    (h : cwp ⟨P, W0, nb⟩ k c (EndK P bs.length rv.toList r bs') ⟨ini args, bs⟩) : DCalls ⟨P, W0, nb⟩ f args bs r bs' := by
  refine dcalls_body hf hb hname k hk rv hr hn (cwp_eqv (fun e s => ?_) h)
  cases e <;> exact Iff.rfl
attribute [simp] lenOf ownD eqDs coerT zeroCellsT nilK makeSliceD appendA appendB copyD clearD solids solid srcC needA flatArg nilC argBoxes slice3D killB maxLen guardV callV dstOk stepD moveD allocD boxD loadD storeD buildD buildSliceD appendD appBase appMore fillD rowsD pds pureD callD lenD elems sliceD optInt convD mapD evalD constD constC constCs coerD coerCells hasOwn hasOwns binD intD strD asVal flat solid solids deown zeroCells put_upd put_none upd_same upd_ne fz fzs ini resD oneD manyD isCell1 refsD refsDs calleeD argsD subHp reach boxRefs addNew closedIn mapRef mapRefs afterCall writeBack given kills_nil kills_cons backId idxIn callPrep callPrep2 nodupB IfGoal_true IfGoal_false IfGoal_not
end Go.Proofs.Dm
