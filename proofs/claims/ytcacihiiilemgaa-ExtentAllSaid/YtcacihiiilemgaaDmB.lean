/- The D-machine, part B: states, what stands for them, pure operations. -/
import Derived.Test.YtcacihiiilemgaaDmA
set_option linter.unusedVariables false
set_option linter.unusedSimpArgs false
namespace Go.Proofs.Dm
open Go Go.RowKit

inductive Pos where
  | tmp (p : List Nat)
  | cell (p : List Nat)
  | box (id : Nat)
  | res (p : List Nat)

structure Ctx where
  P : Program
  W0 : World
  nb : Nat

abbrev Own := Nat → Option Pos
abbrev Mark := Nat → Nat

structure Fr (w0 : World) (h0 : Mark) (ow0 : Own) (w : World) (h : Mark) (ow : Own) : Prop where
  st : Stable w0 h0 w h
  size : w0.heap.size ≤ w.heap.size
  os : w.os = w0.os
  tape : w.tape = w0.tape
  output : w.output = w0.output
  keep : ∀ b, b < w0.heap.size → ow0 b = none → w.heap[b]? = w0.heap[b]? ∧ h b = h0 b ∧ ow b = none

theorem Fr.refl (w : World) (h : Mark) (ow : Own) : Fr w h ow w h ow := ⟨Stable.refl _ _, Nat.le_refl _, rfl, rfl, rfl, fun _ _ h => ⟨rfl, rfl, h⟩⟩
theorem Fr.trans {w0 h0 ow0 w1 h1 ow1 w2 h2 ow2} (a : Fr w0 h0 ow0 w1 h1 ow1) (b : Fr w1 h1 ow1 w2 h2 ow2) : Fr w0 h0 ow0 w2 h2 ow2 :=
  ⟨a.st.trans b.st, Nat.le_trans a.size b.size, b.os.trans a.os, b.tape.trans a.tape, b.output.trans a.output, fun x hx ho => by
    obtain ⟨p, q, r⟩ := a.keep x hx ho
    obtain ⟨p', q', r'⟩ := b.keep x (Nat.lt_of_lt_of_le hx a.size) r
    exact ⟨p'.trans p, q'.trans q, r'⟩⟩

structure Glob (C : Ctx) (w : World) (ow : Own) : Prop where
  nb : C.nb ≤ w.heap.size
  eq : ∀ b, b < C.nb → w.heap[b]? = C.W0.heap[b]? ∧ ow b = none

theorem Glob.fr {C : Ctx} {w0 h0 ow0 w h ow} (g : Glob C w0 ow0) (f : Fr w0 h0 ow0 w h ow) : Glob C w ow :=
  ⟨Nat.le_trans g.nb f.size, fun b hb => by
    obtain ⟨p, q⟩ := g.eq b hb
    obtain ⟨a, _, c⟩ := f.keep b (Nat.lt_of_lt_of_le hb g.nb) q
    exact ⟨a.trans p, c⟩⟩

/-- The boxes. -/
structure HR (w : World) (h : Mark) (ρ : List Nat) (ow : Own) (bs : List (List DV)) : Prop where
  len : bs.length = ρ.length
  box : ∀ (id : Nat) (box : List DV) (b : Nat), bs[id]? = some box → ρ[id]? = some b → box ≠ [] → ow b = some (.box id) ∧ h b = 0 ∧
    ∃ cs T, w.heap[b]? = some (.cells cs T (0, 0)) ∧ box.length ≤ cs.size ∧ RepDs w h ρ box (fun g p => ow g = some (.cell (id :: p))) 0 (cs.toList.take box.length)
  lt : ∀ g, ow g ≠ none → g < w.heap.size
  hz : ∀ b, w.heap.size ≤ b → h b = 0

structure St where
  tm : Nat → DV
  hp : List (List DV)

structure Rel (C : Ctx) (w0 : World) (h0 : Mark) (ow0 : Own) (r0 : List Nat) (n : Nat) (s : St) (a : Act) (w : World) (h : Mark) (ow : Own) (ρ : List Nat) : Prop where
  glob : Glob C w ow
  fr : Fr w0 h0 ow0 w h ow
  hr : HR w h ρ ow s.hp
  defers : a.defers = []
  size : a.tmps.size = n
  tm : ∀ i, RepD w h ρ (s.tm i) (fun g p => ow g = some (.tmp (i :: p))) (a.tmps.getD i undef)
  dom : ∀ i, n ≤ i → s.tm i = .un
  pre : ∃ ex, ρ = r0 ++ ex

def St.put (s : St) (d : Option Tmp) (v : DV) : St :=
  match d with
  | none => s
  | some d => { s with tm := fun i => if i = d then v else s.tm i }

def dstOk (n : Nat) : Option Tmp → Bool
  | none => true
  | some d => decide (d < n)

theorem getD_put (a : Act) (d : Tmp) (v : Value) (i : Nat) (hd : d < a.tmps.size) : (a.put (some d) v).tmps.getD i undef = if i = d then v else a.tmps.getD i undef := by
  simp only [Act.put, Array.getD_eq_getD_getElem?, Array.getElem?_setIfInBounds]
  by_cases h : d = i
  · subst h; simp [hd]
  · rw [if_neg h, if_neg (fun e => h e.symm)]

/-- A value without owners is put into a slot. -/
theorem Rel.put {C w0 h0 ow0 r0 n s a w h ow ρ} (r : Rel C w0 h0 ow0 r0 n s a w h ow ρ) (d : Option Tmp) (hd : dstOk n d = true) {dv : DV} {v : Value}
    (hv : ∀ O, RepD w h ρ dv O v) : Rel C w0 h0 ow0 r0 n (s.put d dv) (a.put d v) w h ow ρ := by
  cases d with
  | none => exact r
  | some d =>
    simp only [dstOk, decide_eq_true_eq] at hd
    have hd' : d < a.tmps.size := by rw [r.size]; exact hd
    refine ⟨r.glob, r.fr, r.hr, r.defers, by simpa [Act.put] using r.size, fun i => ?_, fun i hi => ?_, r.pre⟩
    · rw [getD_put a d v i hd']
      simp only [St.put]
      split
      · exact hv _
      · exact r.tm i
    · simp only [St.put]
      rw [if_neg (fun e => by rw [e] at hi; exact absurd hi (Nat.not_le_of_gt hd))]
      exact r.dom i hi

def Good (C : Ctx) (w0 : World) (h0 : Mark) (ow0 : Own) (r0 : List Nat) (n : Nat) (s : St) (K : Act → World → Prop) : Prop :=
  ∀ a w h ow ρ, Rel C w0 h0 ow0 r0 n s a w h ow ρ → K a w

/-! ### Operands -/
def constC : Value → Option DV
  | .bool b => some (.p (.bool b))
  | .int k n => some (.p (.int k n))
  | .string s => some (.p (.str s))
  | .pointer none => some (.p .nilp)
  | .slice none 0 0 => some .nil
  | _ => none
def constCs : List Value → Option (List DV)
  | [] => some []
  | v :: vs => match constC v, constCs vs with
    | some d, some ds => some (d :: ds)
    | _, _ => none
def constD : Value → Option DV
  | .agg cs => (constCs cs.toList).map .agg
  | v => constC v
theorem constC_rep {w h ρ v d O} (e : constC v = some d) : RepD w h ρ d O v := by
  unfold constC at e
  split at e <;> first
    | (injection e with e; subst e; simp only [RepD, Rep]; done)
    | cases e
theorem constCs_rep {w h ρ} : ∀ {vs ds O k}, constCs vs = some ds → RepDs w h ρ ds O k vs
  | [], ds, O, k, e => by simp only [constCs, Option.some.injEq] at e; subst e; simp only [RepDs]
  | v :: vs, ds, O, k, e => by
    simp only [constCs] at e
    split at e
    · rename_i d ds' h1 h2
      injection e with e
      subst e
      simp only [RepDs]
      exact ⟨v, vs, rfl, constC_rep h1, constCs_rep h2⟩
    · cases e
theorem constD_rep {w h ρ v d O} (e : constD v = some d) : RepD w h ρ d O v := by
  unfold constD at e
  split at e
  · rename_i cs
    obtain ⟨ds, h1, h2⟩ := Option.map_eq_some_iff.1 e
    subst h2
    simp only [RepD]
    exact ⟨cs, rfl, constCs_rep h1⟩
  · exact constC_rep e

def evalD (s : St) : Operand → Option DV
  | .tmp t => some (s.tm t)
  | .const v => constD v
  | .func f => some (.fn f [])
  | .global _ => none
def opO (ow : Own) : Operand → Nat → List Nat → Prop
  | .tmp t => fun g p => ow g = some (.tmp (t :: p))
  | _ => fun _ _ => False
theorem evalD_rep {C w0 h0 ow0 r0 n s a w h ow ρ} (r : Rel C w0 h0 ow0 r0 n s a w h ow ρ) {x : Operand} {d : DV} (e : evalD s x = some d) : RepD w h ρ d (opO ow x) (a.eval x) := by
  cases x with
  | tmp t => simp only [evalD, Option.some.injEq] at e; subst e; exact r.tm t
  | const v => exact constD_rep e
  | func f => simp only [evalD, Option.some.injEq] at e; subst e; simp only [RepD, RepDs]; exact ⟨#[], rfl, rfl⟩
  | global g => simp [evalD] at e

/-! ### What is asked of types -/
def tsz (P : Program) (t : TypeId) : Option Nat := (P.info? t).map (·.size)
def tbytes (P : Program) (t : TypeId) : Option Nat := (P.info? t).map (·.bytes)
def tslice (P : Program) (t : TypeId) : Option TypeId := match P.underlying t with
  | some (.slice e) => some e
  | _ => none
def tagg (P : Program) (t : TypeId) : Option Bool := (P.underlying t).map fun
  | .struct _ => true
  | .array _ _ => true
  | _ => false
/-- 0: a string; 1: a bool; 2: an integer; 3: a slice; 4: another -/
def tkind (P : Program) (t : TypeId) : Option Nat := (P.underlying t).map fun
  | .string => 0
  | .bool => 1
  | .int _ => 2
  | .slice _ => 3
  | .pointer _ => 5
  | _ => 4
/-- A field: where it begins, how many cells it has, is it a struct or an array. -/
def tfield (P : Program) (t : TypeId) (i : Nat) : Option (Nat × Nat × Bool) := match P.underlying t with
  | some (.struct fs) => match fs[i]? with
    | some f => match tsz P f.type, tagg P f.type with
      | some z, some g => some (f.offset, z, g)
      | _, _ => none
    | none => none
  | _ => none
theorem tsz_spec {P t z} (e : tsz P t = some z) (w : World) : (sizeOf t).run P w = .ok z w := by
  obtain ⟨i, h1, h2⟩ := Option.map_eq_some_iff.1 e
  subst h2
  simp [sizeOf, typeInfo, program, Sem.run, h1]
theorem tslice_spec {P t e} (q : tslice P t = some e) : P.underlying t = some (.slice e) := by
  unfold tslice at q
  split at q
  · rename_i h; injection q with q; subst q; exact h
  · cases q
theorem tagg_spec {P t g} (e : tagg P t = some g) (w : World) : (isAgg t).run P w = .ok g w := by
  obtain ⟨d, h1, h2⟩ := Option.map_eq_some_iff.1 e
  subst h2
  simp only [isAgg, Sem.run_bind, run_underlying h1, Result.andThen_ok]
  cases d <;> rfl
theorem tkind0 {P t} (q : tkind P t = some 0) : P.underlying t = some .string := by
  obtain ⟨d, h1, h2⟩ := Option.map_eq_some_iff.1 q
  rw [h1]; cases d <;> simp_all
theorem tkind1 {P t} (q : tkind P t = some 1) : P.underlying t = some .bool := by
  obtain ⟨d, h1, h2⟩ := Option.map_eq_some_iff.1 q
  rw [h1]; cases d <;> simp_all
theorem tkind5 {P t} (q : tkind P t = some 5) : ∃ e, P.underlying t = some (.pointer e) := by
  obtain ⟨d, h1, h2⟩ := Option.map_eq_some_iff.1 q
  rw [h1]; cases d <;> simp_all
theorem tfield_spec {P t i off z g} (q : tfield P t i = some (off, z, g)) : ∃ fs f, P.underlying t = some (.struct fs) ∧ fs[i]? = some f ∧ f.offset = off ∧ tsz P f.type = some z ∧ tagg P f.type = some g := by
  unfold tfield at q
  split at q
  · rename_i fs h1
    split at q
    · rename_i f h2
      split at q
      · rename_i z' g' h3 h4
        injection q with q
        obtain ⟨rfl, rfl, rfl⟩ := q
        exact ⟨fs, f, h1, h2, rfl, h3, h4⟩
      · cases q
    · cases q
  · cases q

/-! ### Arithmetic -/
def intD (op : BinOp) (k : IntKind) (a b : Int) : Option PD :=
  match op with
  | .add => some (.int k (k.wrap (a + b)))
  | .sub => some (.int k (k.wrap (a - b)))
  | .mul => some (.int k (k.wrap (a * b)))
  | .quo => if b = 0 then none else some (.int k (k.wrap (a.tdiv b)))
  | .rem => if b = 0 then none else some (.int k (a.tmod b))
  | .and => some (.int k (k.wrap (BitVec.ofInt k.bits a &&& BitVec.ofInt k.bits b).toNat))
  | .or => some (.int k (k.wrap (BitVec.ofInt k.bits a ||| BitVec.ofInt k.bits b).toNat))
  | .xor => some (.int k (k.wrap (BitVec.ofInt k.bits a ^^^ BitVec.ofInt k.bits b).toNat))
  | .eql => some (.bool (a == b))
  | .neq => some (.bool (a != b))
  | .lss => some (.bool (decide (a < b)))
  | .leq => some (.bool (decide (a ≤ b)))
  | .gtr => some (.bool (decide (a > b)))
  | .geq => some (.bool (decide (a ≥ b)))
  | _ => none
def strD (op : BinOp) (a b : ByteArray) : Option PD :=
  match op with
  | .add => if ((a.size + b.size : Nat) : Int) > IntKind.i64.max then none else some (.str (a ++ b))
  | .eql => some (.bool (a.toList == b.toList))
  | .neq => some (.bool (!(a.toList == b.toList)))
  | _ => none
def nilK : DV → Option Bool
  | .nil => some true
  | .arr _ _ _ (_ + 1) => some false
  | .p (.sl _ (_ :: _)) => some false
  | .own _ _ (_ :: _) => some false
  | _ => none
theorem nilK_ok {d b} (e : nilK d = some b) {w : World} {h : Mark} {ρ O v} (r : RepD w h ρ d O v) : ∃ a n c, v = .slice a n c ∧ a.isNone = b := by
  unfold nilK at e
  split at e
  · injection e with e; subst e; simp only [RepD] at r; exact ⟨none, 0, 0, r, rfl⟩
  · injection e with e; subst e; simp only [RepD] at r
    obtain ⟨b, _, ⟨q, _⟩ | ⟨cap, _, _, _, _, rfl, _⟩⟩ := r
    · cases q
    · exact ⟨_, _, _, rfl, rfl⟩
  · injection e with e; subst e; simp only [RepD, Rep] at r
    rcases r with ⟨q, _⟩ | ⟨g, off, cap, rfl, _⟩
    · cases q
    · exact ⟨_, _, _, rfl, rfl⟩
  · injection e with e; subst e; simp only [RepD] at r
    have r := r.freeze
    simp only [Rep] at r
    rcases r with ⟨q, _⟩ | ⟨g, off, cap, rfl, _⟩
    · cases q
    · exact ⟨_, _, _, rfl, rfl⟩
  · cases e
def binD (P : Program) (t : TypeId) (op : BinOp) : DV → DV → Option PD
  | .p (.int k a), .p (.int k' b) => match op with
    | .shl => if b < 0 then none else some (.int k (k.wrap (a * 2 ^ min b.toNat k.bits)))
    | .shr => if b < 0 then none else some (.int k (a.fdiv (2 ^ min b.toNat k.bits)))
    | _ => if k = k' then intD op k a b else none
  | .p (.str a), .p (.str b) => strD op a b
  | .p (.bool a), .p (.bool b) => if tkind P t = some 1 then (match op with
    | .eql => some (.bool (a == b))
    | .neq => some (.bool (!(a == b)))
    | _ => none) else none
  | .ref _ _, .p .nilp => if tkind P t = some 5 then (match op with
    | .eql => some (.bool false)
    | .neq => some (.bool true)
    | _ => none) else none
  | .p .nilp, .p .nilp => if tkind P t = some 5 then (match op with
    | .eql => some (.bool true)
    | .neq => some (.bool false)
    | _ => none) else none
  | d, .nil => if tkind P t = some 3 then (match nilK d with
    | some b => (match op with
      | .eql => some (.bool b)
      | .neq => some (.bool (!b))
      | _ => none)
    | none => none) else none
  | _, _ => none

def scal : PD → Value
  | .bool b => .bool b
  | .int k n => .int k n
  | .str s => .string s
  | .nilp => .pointer none
  | .sl _ _ => .slice none 0 0
theorem scal_bool {w h b} : Rep w h (.bool b) (scal (.bool b)) := by simp only [Rep, scal]
theorem scal_int {w h k n} : Rep w h (.int k n) (scal (.int k n)) := by simp only [Rep, scal]
theorem scal_str {w h s} : Rep w h (.str s) (scal (.str s)) := by simp only [Rep, scal]

theorem intD_ok {P op k a b r} (e : intD op k a b = some r) (hs : op ≠ .shl ∧ op ≠ .shr) (t : TypeId) (w : World) {h : Mark} :
    ∃ v, (binOp op t (.int k a) (.int k b)).run P w = .ok v w ∧ Rep w h r v := by
  cases op <;> simp only [intD] at e <;> first
    | (injection e with e; subst e; refine ⟨scal _, ?_, by first | exact scal_bool | exact scal_int⟩; simp [binOp, Op.intArith, Op.intBits, Op.intCmp, scal]; done)
    | (by_cases hb : b = 0
       · rw [if_pos hb] at e; cases e
       · rw [if_neg hb] at e; injection e with e; subst e; refine ⟨scal _, ?_, scal_int⟩; simp [binOp, Op.intDiv, hb, scal]; done)
    | cases e

theorem equalIn_bool {P : Program} {t : TypeId} (h : P.underlying t = some .bool) (a b : Bool) (w : World) (d : Nat) : (Op.equalIn (d + 1) t (.bool a) (.bool b)).run P w = .ok (a == b) w := by
  simp only [Op.equalIn, Sem.run_bind, run_underlying h, Result.andThen_ok, Sem.run_pure]
theorem equal_bool {P : Program} {t : TypeId} (h : P.underlying t = some .bool) (a b : Bool) (w : World) : (Op.equal t (.bool a) (.bool b)).run P w = .ok (a == b) w :=
  equalIn_bool h a b w 9999
theorem equalIn_ptr {P : Program} {t e : TypeId} (h : P.underlying t = some (.pointer e)) (b : Option Addr) (w : World) (d : Nat) : (Op.equalIn (d + 1) t (.pointer b) (.pointer none)).run P w = .ok b.isNone w := by
  cases b <;> simp only [Op.equalIn, Sem.run_bind, run_underlying h, Result.andThen_ok, Sem.run_pure] <;> rfl
theorem equal_ptr {P : Program} {t e : TypeId} (h : P.underlying t = some (.pointer e)) (b : Option Addr) (w : World) : (Op.equal t (.pointer b) (.pointer none)).run P w = .ok b.isNone w :=
  equalIn_ptr h b w 9999

theorem tkind3 {P t} (q : tkind P t = some 3) : ∃ e, P.underlying t = some (.slice e) := by
  obtain ⟨d, h1, h2⟩ := Option.map_eq_some_iff.1 q
  rw [h1]; cases d <;> simp_all
theorem equal_slice {P : Program} {t e : TypeId} (h : P.underlying t = some (.slice e)) (a : Option Addr) (n c : Nat) (w : World) : (Op.equal t (.slice a n c) (.slice none 0 0)).run P w = .ok a.isNone w := by
  have : ∀ d, (Op.equalIn (d + 1) t (.slice a n c) (.slice none 0 0)).run P w = .ok a.isNone w := fun d => by
    cases a <;> simp [Op.equalIn, run_underlying h]
  exact this 9999
theorem binD_ok {P t op x y r} (e : binD P t op x y = some r) {w : World} {h : Mark} {ρ O O' vx vy} (rx : RepD w h ρ x O vx) (ry : RepD w h ρ y O' vy) :
    ∃ v, (binOp op t vx vy).run P w = .ok v w ∧ Rep w h r v := by
  unfold binD at e
  split at e
  · rename_i k a k' b
    simp only [RepD, Rep] at rx ry
    subst rx; subst ry
    split at e
    · by_cases hb : b < 0
      · rw [if_pos hb] at e; cases e
      · rw [if_neg hb] at e; injection e with e; subst e
        exact ⟨scal _, by simp [binOp, Op.shift, hb, scal], scal_int⟩
    · by_cases hb : b < 0
      · rw [if_pos hb] at e; cases e
      · rw [if_neg hb] at e; injection e with e; subst e
        exact ⟨scal _, by simp [binOp, Op.shift, hb, scal], scal_int⟩
    · rename_i h1 h2
      split at e
      · rename_i hk
        subst hk
        exact intD_ok e ⟨h1, h2⟩ t w
      · cases e
  · rename_i a b
    simp only [RepD, Rep] at rx ry
    subst rx; subst ry
    cases op <;> simp only [strD] at e <;> first
      | (injection e with e; subst e; exact ⟨scal _, by simp only [binOp, Op.stringOp, Sem.run_pure, scal], scal_bool⟩)
      | (by_cases hb : ((a.size + b.size : Nat) : Int) > IntKind.i64.max
         · rw [if_pos hb] at e; cases e
         · rw [if_neg hb] at e; injection e with e; subst e
           exact ⟨scal _, by simp only [binOp, Op.stringOp, if_neg hb, Sem.run_pure, scal], scal_str⟩)
      | cases e
  · rename_i a b
    simp only [RepD, Rep] at rx ry
    subst rx; subst ry
    split at e
    · rename_i ht
      have hu := tkind1 ht
      cases op <;> first
        | (injection e with e; subst e; exact ⟨scal _, by simp only [binOp, Sem.run_bind, equal_bool hu, Result.andThen_ok, Sem.run_pure, scal], scal_bool⟩)
        | cases e
    · cases e
  · rename_i i o
    simp only [RepD, Rep] at rx ry
    obtain ⟨b, _, rx⟩ := rx
    subst rx; subst ry
    split at e
    · rename_i ht
      obtain ⟨el, hu⟩ := tkind5 ht
      cases op <;> first
        | (injection e with e; subst e; exact ⟨scal _, by simp only [binOp, Sem.run_bind, equal_ptr hu, Result.andThen_ok, Sem.run_pure, Option.isNone, Bool.not_false, scal], scal_bool⟩)
        | cases e
    · cases e
  · simp only [RepD, Rep] at rx ry
    subst rx; subst ry
    split at e
    · rename_i ht
      obtain ⟨el, hu⟩ := tkind5 ht
      cases op <;> first
        | (injection e with e; subst e; exact ⟨scal _, by simp only [binOp, Sem.run_bind, equal_ptr hu, Result.andThen_ok, Sem.run_pure, Option.isNone, Bool.not_true, scal], scal_bool⟩)
        | cases e
    · cases e
  · simp only [RepD] at ry
    subst ry
    split at e
    · rename_i ht
      obtain ⟨el, hu⟩ := tkind3 ht
      split at e
      · rename_i b hb
        obtain ⟨a, n, c, rfl, q⟩ := nilK_ok hb rx
        subst q
        cases op <;> first
          | (injection e with e; subst e; exact ⟨scal _, by simp only [binOp, Sem.run_bind, equal_slice hu, Result.andThen_ok, Sem.run_pure, scal], scal_bool⟩)
          | cases e
      · cases e
    · cases e
  · cases e
end Go.Proofs.Dm
