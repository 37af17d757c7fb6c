/- The D-machine, part C: operations that only reckon. -/
import Derived.Test.YtcacihiiilemgaaDmB
set_option linter.unusedVariables false
set_option linter.unusedSimpArgs false
namespace Go.Proofs.Dm
open Go Go.RowKit

def optInt (ev : Operand → Option DV) (dflt : Int) : Option Operand → Option Int
  | none => some dflt
  | some x => match ev x with
    | some (.p (.int _ n)) => some n
    | _ => none
def elems : DV → Option (Nat × List (List PD))
  | .p (.sl z xs) => some (z, xs)
  | .own _ z xs => some (z, xs)
  | .cp z xs => some (z, xs)
  | .mt _ z => some (z, [])
  | _ => none
def sliceD (P : Program) (t : TypeId) (ev : Operand → Option DV) (x : Operand) (lo hi : Option Operand) : Option DV :=
  match ev x with
  | some (.p (.str s)) => match optInt ev 0 lo, optInt ev s.size hi with
    | some l, some h => if tkind P t = some 0 ∧ 0 ≤ l ∧ l ≤ h ∧ h ≤ s.size then some (.p (.str (s.extract l.toNat h.toNat))) else none
    | _, _ => none
  | some (.arr id off z n) => match tslice P t with
    | some e => match optInt ev 0 lo, optInt ev n hi with
      | some l, some h => if tsz P e = some z ∧ 0 ≤ l ∧ l ≤ h ∧ h ≤ n then some (.arr id (off + l.toNat * z) z (h.toNat - l.toNat)) else none
      | _, _ => none
    | none => none
  | some d => match elems d, tslice P t with
    | some (z, xs), some e => match optInt ev 0 lo, optInt ev xs.length hi with
      | some l, some h => if tsz P e = some z ∧ 0 ≤ l ∧ l ≤ h ∧ h ≤ xs.length then some (.p (.sl z ((xs.take h.toNat).drop l.toNat))) else none
      | _, _ => none
    | _, _ => none
  | none => none
/-- x[l:h:h]: nothing has room behind it. -/
def slice3D (P : Program) (t : TypeId) (ev : Operand → Option DV) (x : Operand) (lo hi : Option Operand) (mx : Operand) : Option DV :=
  match ev x with
  | some (.arr id off z n) => match tslice P t with
    | some e => match optInt ev 0 lo, optInt ev (-1) hi, optInt ev 0 (some mx) with
      | some l, some h, some m => if tsz P e = some z ∧ l = 0 ∧ h = 0 ∧ m = 0 then some (.cp z []) else none
      | _, _, _ => none
    | none => none
  | some d => match elems d, tslice P t with
    | some (z, xs), some e => match optInt ev 0 lo, optInt ev (-1) hi, optInt ev 0 (some mx) with
      | some l, some h, some m => if tsz P e = some z ∧ 0 ≤ l ∧ l ≤ h ∧ h ≤ xs.length ∧ m = h then some (.cp z ((xs.take h.toNat).drop l.toNat)) else none
      | _, _, _ => none
    | _, _ => none
  | none => none
def mapD (ev : Operand → Option DV) : List Operand → Option (List DV)
  | [] => some []
  | x :: xs => match ev x, mapD ev xs with
    | some d, some ds => some (d :: ds)
    | _, _ => none
def lenD (P : Program) (t : TypeId) : DV → Option DV
  | .p (.str s) => if tkind P t = some 0 then some (.p (.int .i64 s.size)) else none
  | .p (.sl _ xs) => if tkind P t = some 3 then some (.p (.int .i64 xs.length)) else none
  | .own _ _ xs => if tkind P t = some 3 then some (.p (.int .i64 xs.length)) else none
  | .cp _ xs => if tkind P t = some 3 then some (.p (.int .i64 xs.length)) else none
  | .mt _ _ => if tkind P t = some 3 then some (.p (.int .i64 0)) else none
  | .arr _ _ _ n => if tkind P t = some 3 then some (.p (.int .i64 n)) else none
  | .nil => if tkind P t = some 3 then some (.p (.int .i64 0)) else none
  | _ => none
def tint (P : Program) (t : TypeId) : Option IntKind := match P.underlying t with
  | some (.int k) => some k
  | _ => none
def convD (P : Program) (src dst : TypeId) : DV → Option DV
  | .p (.int _ n) => match tint P dst with
    | some k => if tkind P src = some 2 then some (.p (.int k (k.wrap n))) else none
    | none => none
  | .p (.str s) => if tkind P dst = some 0 ∧ tkind P src = some 0 then some (.p (.str s)) else none
  | _ => none
def callD (P : Program) (ev : Operand → Option DV) (c : Call) : Option DV :=
  match c.callee with
  | .builtin .len => match c.args.toList, c.argTypes.toList with
    | [x], [t] => match ev x with
      | some d => lenD P t d
      | none => none
    | _, _ => none
  | .builtin .min => match c.args.toList with
    | [x, y] => match ev x, ev y with
      | some (.p (.int k a)), some (.p (.int k' b)) => if k = k' then some (.p (.int k (if a < b then a else b))) else none
      | _, _ => none
    | _ => none
  | .builtin .max => match c.args.toList with
    | [x, y] => match ev x, ev y with
      | some (.p (.int k a)), some (.p (.int k' b)) => if k = k' then some (.p (.int k (if a > b then a else b))) else none
      | _, _ => none
    | _ => none
  | _ => none
def pureD (P : Program) (ev : Operand → Option DV) : Op → Option DV
  | .pick c a b => match ev c with
    | some (.p (.bool true)) => (ev a).map fz
    | some (.p (.bool false)) => (ev b).map fz
    | _ => none
  | .nilCheck x => match ev x with
    | some (.ref i k) => some (.ref i k)
    | some (.fr cs) => some (.fr cs)
    | some (.fn f c) => some (.fn f (fzs c))
    | _ => none
  | .binOp op t x y _ => match ev x, ev y with
    | some a, some b => (binD P t op a b).map .p
    | _, _ => none
  | .unOp .not _ x => match ev x with
    | some (.p (.bool b)) => some (.p (.bool !b))
    | _ => none
  | .unOp .neg _ x => match ev x with
    | some (.p (.int k n)) => some (.p (.int k (k.wrap (0 - n))))
    | _ => none
  | .field t x i => match ev x, tfield P t i with
    | some (.agg cs), some (off, z, g) => if g then some (.agg (fzs ((cs.drop off).take z))) else (cs[off]?).map fz
    | _, _ => none
  | .fieldAddr t x i => match ev x, tfield P t i with
    | some (.ref id k), some (off, z, _) => if z = 0 then none else some (.ref id (k + off))
    | some (.fr cs), some (off, z, _) => if z = 0 then none else if off ≤ cs.length then some (.fr (cs.drop off)) else none
    | _, _ => none
  | .indexAddr t x ix => match ev x, ev ix with
    | some (.arr id off z k), some (.p (.int _ n)) => match tslice P t with
      | some e => if tsz P e = some z ∧ 0 ≤ n ∧ n.toNat < k then some (.ref id (off + n.toNat * z)) else none
      | none => none
    | some d, some (.p (.int _ n)) => match elems d, tslice P t with
      | some (z, xs), some e => if tsz P e = some z ∧ 0 ≤ n then (xs[n.toNat]?).map .fr else none
      | _, _ => none
    | _, _ => none
  | .index t x ix => match ev x, ev ix with
    | some (.p (.str s)), some (.p (.int _ n)) => if tkind P t = some 0 ∧ 0 ≤ n then (match s[n.toNat]? with
      | some b => some (.p (.int .u8 b.toNat))
      | none => none) else none
    | _, _ => none
  | .slice t x lo hi none => sliceD P t ev x lo hi
  | .slice t x lo hi (some mx) => slice3D P t ev x lo hi mx
  | .convert src dst x => match ev x with
    | some d => convD P src dst d
    | none => none
  | .extract x i => match ev x with
    | some (.tup ds) => (ds[i]?).map fz
    | _ => none
  | .makeFunc (.func f) first cap => if first.size = 0 then (mapD ev cap.toList).map fun ds => .fn f (fzs ds) else none
  | .call c => callD P ev c
  | _ => none

/-- What the operands stand for. -/
def EvOK (w : World) (h : Mark) (ρ : List Nat) (ev : Operand → Option DV) (re : Operand → Value) : Prop :=
  ∀ x d, ev x = some d → ∃ O, RepD w h ρ d O (re x)

theorem EvOK.fz {w h ρ ev re} (ok : EvOK w h ρ ev re) {x d} (e : ev x = some d) (O) : RepD w h ρ (fz d) O (re x) := by
  obtain ⟨O', r⟩ := ok x d e
  exact RepD.fz d O' O _ r

theorem RepRow.drop {w h} : ∀ {cs : List PD} {f : Nat → Option Value} (k : Nat), RepRow w h cs f → RepRow w h (cs.drop k) (fun j => f (k + j)) := by
  intro cs f k r
  refine RepRow.of_get fun j c hc => ?_
  rw [List.getElem?_drop] at hc
  exact r.get _ c hc

theorem rep_slice {w h z xs v} (r : Rep w h (.sl z xs) v) : ∃ a c, v = .slice a xs.length c ∧ xs.length ≤ c ∧ (a = none → c = 0) := by
  simp only [Rep] at r
  rcases r with ⟨rfl, a, c, rfl, h⟩ | ⟨g, off, cap, rfl, hc, _⟩
  · exact ⟨a, c, rfl, by simp, h⟩
  · exact ⟨_, cap, rfl, hc, fun h => by cases h⟩
theorem elems_rep {w h ρ d z xs O v} (e : elems d = some (z, xs)) (r : RepD w h ρ d O v) : Rep w h (.sl z xs) v := by
  unfold elems at e
  split at e
  · injection e with e; injection e with e1 e2; subst e1; subst e2; simpa only [RepD] using r
  · injection e with e; injection e with e1 e2; subst e1; subst e2; simp only [RepD] at r; exact r.freeze
  · injection e with e; injection e with e1 e2; subst e1; subst e2; simp only [RepD] at r; exact r.1
  · injection e with e; injection e with e1 e2; subst e1; subst e2; simp only [RepD] at r; exact r.freeze
  · cases e

theorem optInt_ok {P : Program} {w h ρ ev re} (ok : EvOK w h ρ ev re) {dflt : Int} {x : Option Operand} {n : Int} (e : optInt ev dflt x = some n) :
    (x = none ∧ n = dflt) ∨ ∃ y k, x = some y ∧ re y = .int k n := by
  unfold optInt at e
  split at e
  · injection e with e; exact .inl ⟨rfl, e.symm⟩
  · rename_i y
    split at e
    · rename_i k n' h1
      injection e with e; subst e
      obtain ⟨O, r⟩ := ok _ _ h1
      simp only [RepD, Rep] at r
      exact .inr ⟨y, k, rfl, r⟩
    · cases e

theorem sliceBounds_ok {P : Program} {w h ρ ev re} (ok : EvOK w h ρ ev re) (isSlice : Bool) (len cap : Nat) {lo hi : Option Operand} {l r : Int}
    (el : optInt ev 0 lo = some l) (eh : optInt ev len hi = some r) (h0 : 0 ≤ l) (h1 : l ≤ r) (h2 : r ≤ len) (hc : len ≤ cap) :
    (Instr.sliceBounds isSlice len cap (lo.map re) (hi.map re) none).run P w = .ok (l.toNat, r.toNat, cap) w := by
  have A : ∀ (code : BoundsCode) (y : Operand) (k : IntKind) (q : Int) (m : Nat), re y = .int k q → 0 ≤ q → q ≤ m → (Instr.sliceBound (re y) m code).run P w = .ok q.toNat w := by
    intro code y k q m e a b
    simp only [Instr.sliceBound, e, asIntOf, Sem.run_bind, Sem.run_pure, Result.andThen_ok]
    rw [if_pos ⟨a, b⟩]; rfl
  unfold Instr.sliceBounds
  rcases optInt_ok (P := P) ok eh with ⟨rfl, rfl⟩ | ⟨y, k, rfl, hy⟩
  · rcases optInt_ok (P := P) ok el with ⟨rfl, rfl⟩ | ⟨y', k', rfl, hy'⟩
    · simp only [Option.map_none, Sem.run_bind, Sem.run_pure, Result.andThen_ok]; rfl
    · simp only [Option.map_none, Option.map_some, Sem.run_bind, Sem.run_pure, Result.andThen_ok, Option.isSome_none, Bool.false_eq_true, if_false]
      rw [A _ y' k' l len hy' h0 (by omega)]
      simp
  · rcases optInt_ok (P := P) ok el with ⟨rfl, rfl⟩ | ⟨y', k', rfl, hy'⟩
    · simp only [Option.map_none, Option.map_some, Sem.run_bind, Sem.run_pure, Result.andThen_ok]
      rw [A _ y k r cap hy (by omega) (by omega)]
      simp
    · simp only [Option.map_none, Option.map_some, Sem.run_bind, Sem.run_pure, Result.andThen_ok, Option.isSome_none, Bool.false_eq_true, if_false]
      rw [A _ y k r cap hy (by omega) (by omega)]
      simp only [Result.andThen_ok]
      rw [A _ y' k' l r.toNat hy' h0 (by omega)]
      simp

theorem sliceBounds3_ok {P : Program} {w h ρ ev re} (ok : EvOK w h ρ ev re) (isSlice : Bool) (len cap : Nat) {lo hi : Option Operand} {mx : Operand} {l r m : Int}
    (el : optInt ev 0 lo = some l) (eh : optInt ev (-1) hi = some r) (em : optInt ev 0 (some mx) = some m) (h0 : 0 ≤ l) (h1 : l ≤ r) (h2 : r = m) (hc : m ≤ cap) :
    (Instr.sliceBounds isSlice len cap (lo.map re) (hi.map re) (some (re mx))).run P w = .ok (l.toNat, r.toNat, m.toNat) w := by
  have A : ∀ (code : BoundsCode) (y : Operand) (k : IntKind) (q : Int) (m : Nat), re y = .int k q → 0 ≤ q → q ≤ m → (Instr.sliceBound (re y) m code).run P w = .ok q.toNat w := by
    intro code y k q m e a b
    simp only [Instr.sliceBound, e, asIntOf, Sem.run_bind, Sem.run_pure, Result.andThen_ok]
    rw [if_pos ⟨a, b⟩]; rfl
  unfold Instr.sliceBounds
  rcases optInt_ok (P := P) ok em with ⟨q, _⟩ | ⟨y0, k0, hy0, hym⟩
  · cases q
  injection hy0 with hy0; subst hy0
  rcases optInt_ok (P := P) ok eh with ⟨rfl, rfl⟩ | ⟨y, k, rfl, hy⟩
  · omega
  simp only [Option.map_some, Sem.run_bind, Sem.run_pure, Result.andThen_ok, Option.isSome_some, if_true]
  rw [A _ mx k0 m cap hym (by omega) hc]
  simp only [Result.andThen_ok]
  rw [A _ y k r m.toNat hy (by omega) (by omega)]
  simp only [Result.andThen_ok]
  rcases optInt_ok (P := P) ok el with ⟨rfl, rfl⟩ | ⟨y', k', rfl, hy'⟩
  · simp
  · simp only [Option.map_some, Sem.run_bind]
    rw [A _ y' k' l r.toNat hy' h0 (by omega)]
    simp

theorem rep_sub {w h z xs} {l r : Nat} (hl : l ≤ r) (hr : r ≤ xs.length) {g off cap : Nat} (hc : xs.length ≤ cap) (hh : off + xs.length * z ≤ h g) (hz : ∀ x ∈ xs, x.length = z)
    (rr : RepRows w h xs (fun j => w.cell? ⟨g, off + j, none⟩)) (m : Nat) (hm : r ≤ m + l) :
    Rep w h (.sl z ((xs.take r).drop l)) (.slice (some ⟨g, off + l * z, none⟩) (r - l) m) := by
  simp only [Rep]
  have hlen : ((xs.take r).drop l).length = r - l := by simp; omega
  refine .inr ⟨g, off + l * z, m, ?_, ?_, ?_, ?_, ?_⟩
  · rw [hlen]
  · rw [hlen]; omega
  · rw [hlen]
    have : l * z + (r - l) * z = r * z := by rw [← Nat.add_mul]; congr 1; omega
    have h2 : r * z ≤ xs.length * z := Nat.mul_le_mul_right _ hr
    omega
  · intro x hx
    exact hz x (List.mem_of_mem_take (List.mem_of_mem_drop hx))
  · refine RepRows.of_get (size := z) (fun x hx => hz x (List.mem_of_mem_take (List.mem_of_mem_drop hx))) fun i x hx => ?_
    rw [List.getElem?_drop, List.getElem?_take] at hx
    split at hx
    · have := rr.get hz (l + i) x hx
      have e : (fun j => (fun j => w.cell? ⟨g, off + l * z + j, none⟩) (i * z + j)) = (fun j => (fun j => w.cell? ⟨g, off + j, none⟩) ((l + i) * z + j)) := by
        funext j
        simp only []
        rw [Nat.add_mul]
        congr 2
        omega
      rw [e]; exact this
    · cases hx

theorem addr_add (g off k : Nat) : (⟨g, off, none⟩ : Addr).add k = ⟨g, off + k, none⟩ := by unfold Addr.add; split <;> simp_all

theorem sliceD_ok {P t ev x lo hi d w h ρ re} (ok : EvOK w h ρ ev re) (e : sliceD P t ev x lo hi = some d) :
    ∃ v, (Instr.sliceAt t (re x) (lo.map re) (hi.map re) none).run P w = .ok v w ∧ ∀ O, RepD w h ρ d O v := by
  unfold sliceD at e
  split at e
  · rename_i s hx
    split at e
    · rename_i l r el eh
      split at e
      · rename_i hc
        obtain ⟨ht, h0, h1, h2⟩ := hc
        injection e with e; subst e
        obtain ⟨O, rx⟩ := ok _ _ hx
        simp only [RepD, Rep] at rx
        refine ⟨.string (s.extract l.toNat r.toNat), ?_, fun O => by simp only [RepD, Rep]⟩
        have hb := sliceBounds_ok (P := P) ok false s.size s.size el eh h0 h1 h2 (Nat.le_refl _)
        simp only [Instr.sliceAt, Instr.slice, rx, Sem.run_bind, run_underlying (tkind0 ht), Result.andThen_ok, Option.isSome_none, Bool.false_eq_true, if_false, Sem.run_pure, hb]
      · cases e
    · cases e
  · rename_i id off z n hx
    split at e
    · rename_i el2 hts
      split at e
      · rename_i l r el eh
        split at e
        · rename_i hc
          obtain ⟨hz, h0, h1, h2⟩ := hc
          injection e with e; subst e
          obtain ⟨O, rx⟩ := ok _ _ hx
          have hu := tslice_spec hts
          simp only [RepD] at rx
          obtain ⟨b, hb, ⟨rfl, a, c, hv, hac⟩ | ⟨cap, ccs, cT, cf, hcap, hv, hch, hcsz⟩⟩ := rx
          · have hr0 : r = 0 := by omega
            have hl0 : l = 0 := by omega
            subst hr0; subst hl0
            have hb' := sliceBounds_ok (P := P) ok true 0 c el eh (by omega) (by omega) (by simp) (Nat.zero_le _)
            refine ⟨.slice (if c = 0 then a else a.map (·.add (0 * z))) 0 c, ?_, fun O => ?_⟩
            · simp only [Instr.sliceAt, Instr.slice, hv, Sem.run_bind, run_underlying hu, Result.andThen_ok, hb', tsz_spec hz, Sem.run_pure]
              simp
            · simp only [RepD]
              refine ⟨b, hb, .inl ⟨by simp, _, c, rfl, fun q => ?_⟩⟩
              split at q
              · assumption
              · cases a with
                | none => exact hac rfl
                | some _ => simp at q
          · have hb' := sliceBounds_ok (P := P) ok true n cap el eh h0 h1 h2 hcap
            refine ⟨.slice (if cap = l.toNat then some ⟨b, off, none⟩ else some ⟨b, off + l.toNat * z, none⟩) (r.toNat - l.toNat) (cap - l.toNat), ?_, fun O => ?_⟩
            · simp only [Instr.sliceAt, Instr.slice, hv, Sem.run_bind, run_underlying hu, Result.andThen_ok, hb', tsz_spec hz, Sem.run_pure]
              split <;> simp [addr_add]
            · simp only [RepD]
              refine ⟨b, hb, ?_⟩
              by_cases hcl : cap = l.toNat
              · left
                have hrl : r.toNat - l.toNat = 0 := by omega
                refine ⟨hrl, _, _, by rw [hrl], fun q => ?_⟩
                rw [if_pos hcl] at q; cases q
              · right
                refine ⟨cap - l.toNat, ccs, cT, cf, by omega, by rw [if_neg hcl], hch, ?_⟩
                have : l.toNat * z + (cap - l.toNat) * z = cap * z := by rw [← Nat.add_mul]; congr 1; omega
                omega
        · cases e
      · cases e
    · cases e
  · rename_i d' hns hna hx
    split at e
    · rename_i z xs el2 he hts
      split at e
      · rename_i l r el eh
        split at e
        · rename_i hc
          obtain ⟨hz, h0, h1, h2⟩ := hc
          injection e with e; subst e
          obtain ⟨O, rx⟩ := ok _ _ hx
          have rs := elems_rep he rx
          have hu := tslice_spec hts
          simp only [Rep] at rs
          rcases rs with ⟨h0', a, c, hv, hac⟩ | ⟨g, off, cap, hv, hcap, hh, hzz, rr⟩
          · subst h0'
            have hr0 : r = 0 := by simp only [List.length_nil] at h2; omega
            have hl0 : l = 0 := by omega
            subst hr0; subst hl0
            have hb := sliceBounds_ok (P := P) ok true 0 c el eh (by omega) (by omega) (by simp) (Nat.zero_le _)
            refine ⟨.slice (if c = 0 then a else a.map (·.add (0 * z))) 0 c, ?_, fun O => ?_⟩
            · simp only [Instr.sliceAt, Instr.slice, hv, Sem.run_bind, run_underlying hu, Result.andThen_ok, hb, tsz_spec hz, Sem.run_pure]
              simp
            · simp only [RepD, Rep]
              refine .inl ⟨by simp, _, c, rfl, fun q => ?_⟩
              split at q
              · assumption
              · cases a with
                | none => exact hac rfl
                | some _ => simp at q
          · have hb := sliceBounds_ok (P := P) ok true xs.length cap el eh h0 h1 h2 hcap
            by_cases hcl : cap = l.toNat
            · refine ⟨.slice (some ⟨g, off, none⟩) (r.toNat - l.toNat) (cap - l.toNat), ?_, fun O => ?_⟩
              · simp only [Instr.sliceAt, Instr.slice, hv, Sem.run_bind, run_underlying hu, Result.andThen_ok, hb, tsz_spec hz, Sem.run_pure, if_pos hcl]
              · have : (xs.take r.toNat).drop l.toNat = [] := by
                  apply List.eq_nil_of_length_eq_zero; simp; omega
                rw [this]
                have hrl : r.toNat - l.toNat = 0 := by omega
                simp only [RepD, Rep, hrl]
                exact .inr ⟨g, off, cap - l.toNat, rfl, by simp, by simp; omega, by simp, by simp only [RepRows]⟩
            · refine ⟨.slice (some ⟨g, off + l.toNat * z, none⟩) (r.toNat - l.toNat) (cap - l.toNat), ?_, fun O => ?_⟩
              · simp only [Instr.sliceAt, Instr.slice, hv, Sem.run_bind, run_underlying hu, Result.andThen_ok, hb, tsz_spec hz, Sem.run_pure, if_neg hcl, Option.map_some, addr_add]
              · simp only [RepD]
                exact rep_sub (by omega) (by omega) hcap hh hzz rr _ (by omega)
        · cases e
      · cases e
    · cases e
  · cases e

theorem slice3D_ok {P t ev x lo hi mx d w h ρ re} (ok : EvOK w h ρ ev re) (e : slice3D P t ev x lo hi mx = some d) :
    ∃ v, (Instr.sliceAt t (re x) (lo.map re) (hi.map re) (some (re mx))).run P w = .ok v w ∧ ∀ O, RepD w h ρ d O v := by
  unfold slice3D at e
  split at e
  · rename_i id off z n hx
    split at e
    · rename_i el2 hts
      split at e
      · rename_i l r m el eh em
        split at e
        · rename_i hc
          obtain ⟨hz, rfl, rfl, rfl⟩ := hc
          injection e with e; subst e
          obtain ⟨O, rx⟩ := ok _ _ hx
          have hu := tslice_spec hts
          simp only [RepD] at rx
          have hv : ∃ a k c, re x = .slice a k c := by
            obtain ⟨b, hb, ⟨rfl, a, c, hv, hac⟩ | ⟨cap, _, _, _, hcap, hv, _⟩⟩ := rx
            · exact ⟨_, _, _, hv⟩
            · exact ⟨_, _, _, hv⟩
          obtain ⟨a, k, c, hv⟩ := hv
          have hb' := sliceBounds3_ok (P := P) ok true k c el eh em (by omega) (by omega) rfl (by omega)
          refine ⟨.slice a 0 0, ?_, fun O => ?_⟩
          · simp only [Instr.sliceAt, Instr.slice, hv, Sem.run_bind, run_underlying hu, Result.andThen_ok, hb', tsz_spec hz, Sem.run_pure]
            simp
          · simp only [RepD, Rep]
            exact ⟨.inl ⟨trivial, a, 0, rfl, fun _ => rfl⟩, a, rfl⟩
        · cases e
      · cases e
    · cases e
  · rename_i d' hna hx
    split at e
    · rename_i z xs el2 he hts
      split at e
      · rename_i l r m el eh em
        split at e
        · rename_i hc
          obtain ⟨hz, h0, h1, h2, rfl⟩ := hc
          injection e with e; subst e
          obtain ⟨O, rx⟩ := ok _ _ hx
          have rs := elems_rep he rx
          have hu := tslice_spec hts
          obtain ⟨a, c, hv, hlc, hac⟩ := rep_slice rs
          have hb' := sliceBounds3_ok (P := P) ok true xs.length c el eh em h0 h1 rfl (by omega)
          have hlen : ((xs.take m.toNat).drop l.toNat).length = m.toNat - l.toNat := by simp; omega
          refine ⟨.slice (if m.toNat = l.toNat then a else a.map (·.add (l.toNat * z))) (m.toNat - l.toNat) (m.toNat - l.toNat), ?_, fun O => ?_⟩
          · simp only [Instr.sliceAt, Instr.slice, hv, Sem.run_bind, run_underlying hu, Result.andThen_ok, hb', tsz_spec hz, Sem.run_pure]
          · simp only [RepD]
            refine ⟨?_, _, by rw [hlen]⟩
            by_cases hml : m.toNat = l.toNat
            · have hn : (xs.take m.toNat).drop l.toNat = [] := List.eq_nil_of_length_eq_zero (by omega)
              rw [hn, if_pos hml]
              simp only [Rep]
              exact .inl ⟨trivial, a, m.toNat - l.toNat, by simp [hml], fun _ => by omega⟩
            · rw [if_neg hml]
              simp only [Rep] at rs
              rcases rs with ⟨hx0, _⟩ | ⟨g, off, cap, hv2, hcap, hh, hzz, rr⟩
              · subst hx0; simp at h2; omega
              · rw [hv] at hv2; injection hv2 with e1 e2 e3; subst e1
                simp only [Option.map_some, addr_add]
                exact rep_sub (by omega) (by omega) hcap hh hzz rr _ (by omega)
        · cases e
      · cases e
    · cases e
  · cases e

theorem mapD_ok {w h ρ ev re} (ok : EvOK w h ρ ev re) : ∀ {xs : List Operand} {ds : List DV}, mapD ev xs = some ds → ∀ O k, RepDs w h ρ (fzs ds) O k (xs.map re)
  | [], ds, e, O, k => by simp only [mapD, Option.some.injEq] at e; subst e; simp [RepDs, fzs]
  | x :: xs, ds, e, O, k => by
    simp only [mapD] at e
    split at e
    · rename_i d ds' h1 h2
      injection e with e; subst e
      simp only [fzs, RepDs, List.map_cons]
      exact ⟨_, _, rfl, ok.fz h1 _, mapD_ok ok h2 O (k + 1)⟩
    · cases e

theorem lenD_ok {P t d r w h ρ O v} (e : lenD P t d = some r) (rd : RepD w h ρ d O v) (ty : TypeId) :
    ∃ u, (Builtin.len_ #[t] ty #[v]).run P w = .ok u w ∧ ∀ O, RepD w h ρ r O u := by
  unfold lenD at e
  have three : ∀ (n : Nat) (a : Option Addr) (c : Nat), tkind P t = some 3 → (Builtin.len_ #[t] ty #[.slice a n c]).run P w = .ok (.int .i64 n) w := by
    intro n a c ht
    obtain ⟨q, h1, h2⟩ := Option.map_eq_some_iff.1 ht
    cases q <;> simp_all
    simp [Builtin.len_, run_underlying h1, goInt]
  split at e
  · split at e
    · rename_i s ht
      injection e with e; subst e
      simp only [RepD, Rep] at rd
      subst rd
      exact ⟨.int .i64 s.size, by simp [Builtin.len_, run_underlying (tkind0 ht), goInt], fun O => by simp only [RepD, Rep]⟩
    · cases e
  · split at e
    · rename_i z xs ht
      injection e with e; subst e
      simp only [RepD] at rd
      obtain ⟨a, c, rfl, _⟩ := rep_slice rd
      exact ⟨_, three _ _ _ ht, fun O => by simp only [RepD, Rep]⟩
    · cases e
  · split at e
    · rename_i e' z xs ht
      injection e with e; subst e
      simp only [RepD] at rd
      obtain ⟨a, c, rfl, _⟩ := rep_slice rd.freeze
      exact ⟨_, three _ _ _ ht, fun O => by simp only [RepD, Rep]⟩
    · cases e
  · split at e
    · rename_i z xs ht
      injection e with e; subst e
      simp only [RepD] at rd
      obtain ⟨a, c, rfl, _⟩ := rep_slice rd.1
      exact ⟨_, three _ _ _ ht, fun O => by simp only [RepD, Rep]⟩
    · cases e
  · split at e
    · rename_i e' z ht
      injection e with e; subst e
      simp only [RepD] at rd
      obtain ⟨a, c, rfl, _⟩ := rep_slice rd.freeze
      exact ⟨_, three _ _ _ ht, fun O => by simp only [RepD, Rep]; rfl⟩
    · cases e
  · split at e
    · rename_i i o z n ht
      injection e with e; subst e
      simp only [RepD] at rd
      obtain ⟨b, _, ⟨rfl, a, c, rfl, _⟩ | ⟨cap, _, _, _, _, rfl, _⟩⟩ := rd
      · exact ⟨_, three _ _ _ ht, fun O => by simp only [RepD, Rep]⟩
      · exact ⟨_, three _ _ _ ht, fun O => by simp only [RepD, Rep]⟩
    · cases e
  · split at e
    · rename_i ht
      injection e with e; subst e
      simp only [RepD] at rd
      subst rd
      exact ⟨_, three _ _ _ ht, fun O => by simp only [RepD, Rep]; rfl⟩
    · cases e
  · cases e
end Go.Proofs.Dm
