/- Part of the proof: contracts of the functions, walked by the D-machine. No condition. -/
import Derived.Test.YtmlhdhpjcipcdaaGreatDoorDa
set_option linter.unusedVariables false
set_option linter.unusedSimpArgs false
namespace Go.Proofs.Dm
open Go Go.RowKit
def optInt (ev : Operand → Option DV) (dflt : Int) : Option Operand → Option Int
  | none => some dflt
  | some x => match ev x with
    | some (.p (.int _ n)) => some n
    | _ => none
def elems : DV → Option (Nat × List (List PD))
  | .p (.sl z xs) => some (z, xs)
  | .own _ z xs => some (z, xs)
  | .cp z xs => some (z, xs)
  | .mt _ z => some (z, [])
  | _ => none
def sliceD (P : Program) (t : TypeId) (ev : Operand → Option DV) (x : Operand) (lo hi : Option Operand) : Option DV :=
  match ev x with
  | some (.p (.str s)) => match optInt ev 0 lo, optInt ev s.size hi with
    | some l, some h => if tkind P t = some 0 ∧ 0 ≤ l ∧ l ≤ h ∧ h ≤ s.size then some (.p (.str (s.extract l.toNat h.toNat))) else none
    | _, _ => none
  | some (.arr id off z n) => match tslice P t with
    | some e => match optInt ev 0 lo, optInt ev n hi with
      | some l, some h => if tsz P e = some z ∧ 0 ≤ l ∧ l ≤ h ∧ h ≤ n then some (.arr id (off + l.toNat * z) z (h.toNat - l.toNat)) else none
      | _, _ => none
    | none => none
  | some d => match elems d, tslice P t with
    | some (z, xs), some e => match optInt ev 0 lo, optInt ev xs.length hi with
      | some l, some h => if tsz P e = some z ∧ 0 ≤ l ∧ l ≤ h ∧ h ≤ xs.length then some (.p (.sl z ((xs.take h.toNat).drop l.toNat))) else none
      | _, _ => none
    | _, _ => none
  | none => none
def slice3D (P : Program) (t : TypeId) (ev : Operand → Option DV) (x : Operand) (lo hi : Option Operand) (mx : Operand) : Option DV :=
  match ev x with
  | some (.arr id off z n) => match tslice P t with
    | some e => match optInt ev 0 lo, optInt ev (-1) hi, optInt ev 0 (some mx) with
      | some l, some h, some m => if tsz P e = some z ∧ l = 0 ∧ h = 0 ∧ m = 0 then some (.cp z []) else none
      | _, _, _ => none
    | none => none
  | some d => match elems d, tslice P t with
    | some (z, xs), some e => match optInt ev 0 lo, optInt ev (-1) hi, optInt ev 0 (some mx) with
      | some l, some h, some m => if tsz P e = some z ∧ 0 ≤ l ∧ l ≤ h ∧ h ≤ xs.length ∧ m = h then some (.cp z ((xs.take h.toNat).drop l.toNat)) else none
      | _, _, _ => none
    | _, _ => none
  | none => none
def mapD (ev : Operand → Option DV) : List Operand → Option (List DV)
  | [] => some []
  | x :: xs => match ev x, mapD ev xs with
    | some d, some ds => some (d :: ds)
    | _, _ => none
def lenD (P : Program) (t : TypeId) : DV → Option DV
  | .p (.str s) => if tkind P t = some 0 then some (.p (.int .i64 s.size)) else none
  | .p (.sl _ xs) => if tkind P t = some 3 then some (.p (.int .i64 xs.length)) else none
  | .own _ _ xs => if tkind P t = some 3 then some (.p (.int .i64 xs.length)) else none
  | .cp _ xs => if tkind P t = some 3 then some (.p (.int .i64 xs.length)) else none
  | .mt _ _ => if tkind P t = some 3 then some (.p (.int .i64 0)) else none
  | .arr _ _ _ n => if tkind P t = some 3 then some (.p (.int .i64 n)) else none
  | .nil => if tkind P t = some 3 then some (.p (.int .i64 0)) else none
  | _ => none
def tint (P : Program) (t : TypeId) : Option IntKind := match P.underlying t with
  | some (.int k) => some k
  | _ => none
def convD (P : Program) (src dst : TypeId) : DV → Option DV
  | .p (.int _ n) => match tint P dst with
    | some k => if tkind P src = some 2 then some (.p (.int k (k.wrap n))) else none
    | none => none
  | .p (.str s) => if tkind P dst = some 0 ∧ tkind P src = some 0 then some (.p (.str s)) else none
  | _ => none
def callD (P : Program) (ev : Operand → Option DV) (c : Call) : Option DV :=
  match c.callee with
  | .builtin .len => match c.args.toList, c.argTypes.toList with
    | [x], [t] => match ev x with
      | some d => lenD P t d
      | none => none
    | _, _ => none
  | .builtin .min => match c.args.toList with
    | [x, y] => match ev x, ev y with
      | some (.p (.int k a)), some (.p (.int k' b)) => if k = k' then some (.p (.int k (if a < b then a else b))) else none
      | _, _ => none
    | _ => none
  | .builtin .max => match c.args.toList with
    | [x, y] => match ev x, ev y with
      | some (.p (.int k a)), some (.p (.int k' b)) => if k = k' then some (.p (.int k (if a > b then a else b))) else none
      | _, _ => none
    | _ => none
  | _ => none
def pureD (P : Program) (ev : Operand → Option DV) : Op → Option DV
  | .pick c a b => match ev c with
    | some (.p (.bool true)) => (ev a).map fz
    | some (.p (.bool false)) => (ev b).map fz
    | _ => none
  | .nilCheck x => match ev x with
    | some (.ref i k) => some (.ref i k)
    | some (.fr cs) => some (.fr cs)
    | some (.fn f c) => some (.fn f (fzs c))
    | _ => none
  | .binOp op t x y _ => match ev x, ev y with
    | some a, some b => (binD P t op a b).map .p
    | _, _ => none
  | .unOp .not _ x => match ev x with
    | some (.p (.bool b)) => some (.p (.bool !b))
    | _ => none
  | .unOp .neg _ x => match ev x with
    | some (.p (.int k n)) => some (.p (.int k (k.wrap (0 - n))))
    | _ => none
  | .field t x i => match ev x, tfield P t i with
    | some (.agg cs), some (off, z, g) => if g then some (.agg (fzs ((cs.drop off).take z))) else (cs[off]?).map fz
    | _, _ => none
  | .fieldAddr t x i => match ev x, tfield P t i with
    | some (.ref id k), some (off, z, _) => if z = 0 then none else some (.ref id (k + off))
    | some (.fr cs), some (off, z, _) => if z = 0 then none else if off ≤ cs.length then some (.fr (cs.drop off)) else none
    | _, _ => none
  | .indexAddr t x ix => match ev x, ev ix with
    | some (.arr id off z k), some (.p (.int _ n)) => match tslice P t with
      | some e => if tsz P e = some z ∧ 0 ≤ n ∧ n.toNat < k then some (.ref id (off + n.toNat * z)) else none
      | none => none
    | some d, some (.p (.int _ n)) => match elems d, tslice P t with
      | some (z, xs), some e => if tsz P e = some z ∧ 0 ≤ n then (xs[n.toNat]?).map .fr else none
      | _, _ => none
    | _, _ => none
  | .index t x ix => match ev x, ev ix with
    | some (.p (.str s)), some (.p (.int _ n)) => if tkind P t = some 0 ∧ 0 ≤ n then (match s[n.toNat]? with
      | some b => some (.p (.int .u8 b.toNat))
      | none => none) else none
    | _, _ => none
  | .slice t x lo hi none => sliceD P t ev x lo hi
  | .slice t x lo hi (some mx) => slice3D P t ev x lo hi mx
  | .convert src dst x => match ev x with
    | some d => convD P src dst d
    | none => none
  | .extract x i => match ev x with
    | some (.tup ds) => (ds[i]?).map fz
    | _ => none
  | .makeFunc (.func f) first cap => if first.size = 0 then (mapD ev cap.toList).map fun ds => .fn f (fzs ds) else none
  | .call c => callD P ev c
  | _ => none
def EvOK (w : World) (h : Mark) (ρ : List Nat) (ev : Operand → Option DV) (re : Operand → Value) : Prop :=
  ∀ x d, ev x = some d → ∃ O, RepD w h ρ d O (re x)
theorem EvOK.fz {w h ρ ev re} (ok : EvOK w h ρ ev re) {x d} (e : ev x = some d) (O) : RepD w h ρ (fz d) O (re x) := by
  obtain ⟨O', r⟩ := ok x d e
  exact RepD.fz d O' O _ r
theorem RepRow.drop {w h} : ∀ {cs : List PD} {f : Nat → Option Value} (k : Nat), RepRow w h cs f → RepRow w h (cs.drop k) (fun j => f (k + j)) := by
  intro cs f k r
  refine RepRow.of_get fun j c hc => ?_
  rw [List.getElem?_drop] at hc
  exact r.get _ c hc
theorem rep_slice {w h z xs v} (r : Rep w h (.sl z xs) v) : ∃ a c, v = .slice a xs.length c ∧ xs.length ≤ c ∧ (a = none → c = 0) := by
  simp only [Rep] at r
  rcases r with ⟨rfl, a, c, rfl, h⟩ | ⟨g, off, cap, rfl, hc, _⟩
  · exact ⟨a, c, rfl, by simp, h⟩
  · exact ⟨_, cap, rfl, hc, fun h => by cases h⟩
theorem elems_rep {w h ρ d z xs O v} (e : elems d = some (z, xs)) (r : RepD w h ρ d O v) : Rep w h (.sl z xs) v := by
  unfold elems at e
  split at e
  · injection e with e; injection e with e1 e2; subst e1; subst e2; simpa only [RepD] using r
  · injection e with e; injection e with e1 e2; subst e1; subst e2; simp only [RepD] at r; exact r.freeze
  · injection e with e; injection e with e1 e2; subst e1; subst e2; simp only [RepD] at r; exact r.1
  · injection e with e; injection e with e1 e2; subst e1; subst e2; simp only [RepD] at r; exact r.freeze
  · cases e
theorem optInt_ok {P : Program} {w h ρ ev re} (ok : EvOK w h ρ ev re) {dflt : Int} {x : Option Operand} {n : Int} (e : optInt ev dflt x = some n) :
    (x = none ∧ n = dflt) ∨ ∃ y k, x = some y ∧ re y = .int k n := by
  unfold optInt at e
  split at e
  · injection e with e; exact .inl ⟨rfl, e.symm⟩
  · rename_i y
    split at e
    · rename_i k n' h1
      injection e with e; subst e
      obtain ⟨O, r⟩ := ok _ _ h1
      simp only [RepD, Rep] at r
      exact .inr ⟨y, k, rfl, r⟩
    · cases e
theorem sliceBounds_ok {P : Program} {w h ρ ev re} (ok : EvOK w h ρ ev re) (isSlice : Bool) (len cap : Nat) {lo hi : Option Operand} {l r : Int}
    (el : optInt ev 0 lo = some l) (eh : optInt ev len hi = some r) (h0 : 0 ≤ l) (h1 : l ≤ r) (h2 : r ≤ len) (hc : len ≤ cap) :
    (Instr.sliceBounds isSlice len cap (lo.map re) (hi.map re) none).run P w = .ok (l.toNat, r.toNat, cap) w := by
  have A : ∀ (code : BoundsCode) (y : Operand) (k : IntKind) (q : Int) (m : Nat), re y = .int k q → 0 ≤ q → q ≤ m → (Instr.sliceBound (re y) m code).run P w = .ok q.toNat w := by
    intro code y k q m e a b
    simp only [Instr.sliceBound, e, asIntOf, Sem.run_bind, Sem.run_pure, Result.andThen_ok]
    rw [if_pos ⟨a, b⟩]; rfl
  unfold Instr.sliceBounds
  rcases optInt_ok (P := P) ok eh with ⟨rfl, rfl⟩ | ⟨y, k, rfl, hy⟩
  · rcases optInt_ok (P := P) ok el with ⟨rfl, rfl⟩ | ⟨y', k', rfl, hy'⟩
    · simp only [Option.map_none, Sem.run_bind, Sem.run_pure, Result.andThen_ok]; rfl
    · simp only [Option.map_none, Option.map_some, Sem.run_bind, Sem.run_pure, Result.andThen_ok, Option.isSome_none, Bool.false_eq_true, if_false]
      rw [A _ y' k' l len hy' h0 (by omega)]
      simp
  · rcases optInt_ok (P := P) ok el with ⟨rfl, rfl⟩ | ⟨y', k', rfl, hy'⟩
    · simp only [Option.map_none, Option.map_some, Sem.run_bind, Sem.run_pure, Result.andThen_ok]
      rw [A _ y k r cap hy (by omega) (by omega)]
      simp
    · simp only [Option.map_none, Option.map_some, Sem.run_bind, Sem.run_pure, Result.andThen_ok, Option.isSome_none, Bool.false_eq_true, if_false]
      rw [A _ y k r cap hy (by omega) (by omega)]
      simp only [Result.andThen_ok]
      rw [A _ y' k' l r.toNat hy' h0 (by omega)]
      simp
theorem sliceBounds3_ok {P : Program} {w h ρ ev re} (ok : EvOK w h ρ ev re) (isSlice : Bool) (len cap : Nat) {lo hi : Option Operand} {mx : Operand} {l r m : Int}
    (el : optInt ev 0 lo = some l) (eh : optInt ev (-1) hi = some r) (em : optInt ev 0 (some mx) = some m) (h0 : 0 ≤ l) (h1 : l ≤ r) (h2 : r = m) (hc : m ≤ cap) :
    (Instr.sliceBounds isSlice len cap (lo.map re) (hi.map re) (some (re mx))).run P w = .ok (l.toNat, r.toNat, m.toNat) w := by
  have A : ∀ (code : BoundsCode) (y : Operand) (k : IntKind) (q : Int) (m : Nat), re y = .int k q → 0 ≤ q → q ≤ m → (Instr.sliceBound (re y) m code).run P w = .ok q.toNat w := by
    intro code y k q m e a b
    simp only [Instr.sliceBound, e, asIntOf, Sem.run_bind, Sem.run_pure, Result.andThen_ok]
    rw [if_pos ⟨a, b⟩]; rfl
  unfold Instr.sliceBounds
  rcases optInt_ok (P := P) ok em with ⟨q, _⟩ | ⟨y0, k0, hy0, hym⟩
  · cases q
  injection hy0 with hy0; subst hy0
  rcases optInt_ok (P := P) ok eh with ⟨rfl, rfl⟩ | ⟨y, k, rfl, hy⟩
  · omega
  simp only [Option.map_some, Sem.run_bind, Sem.run_pure, Result.andThen_ok, Option.isSome_some, if_true]
  rw [A _ mx k0 m cap hym (by omega) hc]
  simp only [Result.andThen_ok]
  rw [A _ y k r m.toNat hy (by omega) (by omega)]
  simp only [Result.andThen_ok]
  rcases optInt_ok (P := P) ok el with ⟨rfl, rfl⟩ | ⟨y', k', rfl, hy'⟩
  · simp
  · simp only [Option.map_some, Sem.run_bind]
    rw [A _ y' k' l r.toNat hy' h0 (by omega)]
    simp
theorem rep_sub {w h z xs} {l r : Nat} (hl : l ≤ r) (hr : r ≤ xs.length) {g off cap : Nat} (hc : xs.length ≤ cap) (hh : off + xs.length * z ≤ h g) (hz : ∀ x ∈ xs, x.length = z)
    (rr : RepRows w h xs (fun j => w.cell? ⟨g, off + j, none⟩)) (m : Nat) (hm : r ≤ m + l) :
    Rep w h (.sl z ((xs.take r).drop l)) (.slice (some ⟨g, off + l * z, none⟩) (r - l) m) := by
  simp only [Rep]
  have hlen : ((xs.take r).drop l).length = r - l := by simp; omega
  refine .inr ⟨g, off + l * z, m, ?_, ?_, ?_, ?_, ?_⟩
  · rw [hlen]
  · rw [hlen]; omega
  · rw [hlen]
    have : l * z + (r - l) * z = r * z := by rw [← Nat.add_mul]; congr 1; omega
    have h2 : r * z ≤ xs.length * z := Nat.mul_le_mul_right _ hr
    omega
  · intro x hx
    exact hz x (List.mem_of_mem_take (List.mem_of_mem_drop hx))
  · refine RepRows.of_get (size := z) (fun x hx => hz x (List.mem_of_mem_take (List.mem_of_mem_drop hx))) fun i x hx => ?_
    rw [List.getElem?_drop, List.getElem?_take] at hx
    split at hx
    · have := rr.get hz (l + i) x hx
      have e : (fun j => (fun j => w.cell? ⟨g, off + l * z + j, none⟩) (i * z + j)) = (fun j => (fun j => w.cell? ⟨g, off + j, none⟩) ((l + i) * z + j)) := by
        funext j
        simp only []
        rw [Nat.add_mul]
        congr 2
        omega
      rw [e]; exact this
    · cases hx
theorem addr_add (g off k : Nat) : (⟨g, off, none⟩ : Addr).add k = ⟨g, off + k, none⟩ := by unfold Addr.add; split <;> simp_all
theorem sliceD_ok {P t ev x lo hi d w h ρ re} (ok : EvOK w h ρ ev re) (e : sliceD P t ev x lo hi = some d) :
    ∃ v, (Instr.sliceAt t (re x) (lo.map re) (hi.map re) none).run P w = .ok v w ∧ ∀ O, RepD w h ρ d O v := by
  unfold sliceD at e
  split at e
  · rename_i s hx
    split at e
    · rename_i l r el eh
      split at e
      · rename_i hc
        obtain ⟨ht, h0, h1, h2⟩ := hc
        injection e with e; subst e
        obtain ⟨O, rx⟩ := ok _ _ hx
        simp only [RepD, Rep] at rx
        refine ⟨.string (s.extract l.toNat r.toNat), ?_, fun O => by simp only [RepD, Rep]⟩
        have hb := sliceBounds_ok (P := P) ok false s.size s.size el eh h0 h1 h2 (Nat.le_refl _)
        simp only [Instr.sliceAt, Instr.slice, rx, Sem.run_bind, run_underlying (tkind0 ht), Result.andThen_ok, Option.isSome_none, Bool.false_eq_true, if_false, Sem.run_pure, hb]
      · cases e
    · cases e
  · rename_i id off z n hx
    split at e
    · rename_i el2 hts
      split at e
      · rename_i l r el eh
        split at e
        · rename_i hc
          obtain ⟨hz, h0, h1, h2⟩ := hc
          injection e with e; subst e
          obtain ⟨O, rx⟩ := ok _ _ hx
          have hu := tslice_spec hts
          simp only [RepD] at rx
          obtain ⟨b, hb, ⟨rfl, a, c, hv, hac⟩ | ⟨cap, ccs, cT, cf, hcap, hv, hch, hcsz⟩⟩ := rx
          · have hr0 : r = 0 := by omega
            have hl0 : l = 0 := by omega
            subst hr0; subst hl0
            have hb' := sliceBounds_ok (P := P) ok true 0 c el eh (by omega) (by omega) (by simp) (Nat.zero_le _)
            refine ⟨.slice (if c = 0 then a else a.map (·.add (0 * z))) 0 c, ?_, fun O => ?_⟩
            · simp only [Instr.sliceAt, Instr.slice, hv, Sem.run_bind, run_underlying hu, Result.andThen_ok, hb', tsz_spec hz, Sem.run_pure]
              simp
            · simp only [RepD]
              refine ⟨b, hb, .inl ⟨by simp, _, c, rfl, fun q => ?_⟩⟩
              split at q
              · assumption
              · cases a with
                | none => exact hac rfl
                | some _ => simp at q
          · have hb' := sliceBounds_ok (P := P) ok true n cap el eh h0 h1 h2 hcap
            refine ⟨.slice (if cap = l.toNat then some ⟨b, off, none⟩ else some ⟨b, off + l.toNat * z, none⟩) (r.toNat - l.toNat) (cap - l.toNat), ?_, fun O => ?_⟩
            · simp only [Instr.sliceAt, Instr.slice, hv, Sem.run_bind, run_underlying hu, Result.andThen_ok, hb', tsz_spec hz, Sem.run_pure]
              split <;> simp [addr_add]
            · simp only [RepD]
              refine ⟨b, hb, ?_⟩
              by_cases hcl : cap = l.toNat
              · left
                have hrl : r.toNat - l.toNat = 0 := by omega
                refine ⟨hrl, _, _, by rw [hrl], fun q => ?_⟩
                rw [if_pos hcl] at q; cases q
              · right
                refine ⟨cap - l.toNat, ccs, cT, cf, by omega, by rw [if_neg hcl], hch, ?_⟩
                have : l.toNat * z + (cap - l.toNat) * z = cap * z := by rw [← Nat.add_mul]; congr 1; omega
                omega
        · cases e
      · cases e
    · cases e
  · rename_i d' hns hna hx
    split at e
    · rename_i z xs el2 he hts
      split at e
      · rename_i l r el eh
        split at e
        · rename_i hc
          obtain ⟨hz, h0, h1, h2⟩ := hc
          injection e with e; subst e
          obtain ⟨O, rx⟩ := ok _ _ hx
          have rs := elems_rep he rx
          have hu := tslice_spec hts
          simp only [Rep] at rs
          rcases rs with ⟨h0', a, c, hv, hac⟩ | ⟨g, off, cap, hv, hcap, hh, hzz, rr⟩
          · subst h0'
            have hr0 : r = 0 := by simp only [List.length_nil] at h2; omega
            have hl0 : l = 0 := by omega
            subst hr0; subst hl0
            have hb := sliceBounds_ok (P := P) ok true 0 c el eh (by omega) (by omega) (by simp) (Nat.zero_le _)
            refine ⟨.slice (if c = 0 then a else a.map (·.add (0 * z))) 0 c, ?_, fun O => ?_⟩
            · simp only [Instr.sliceAt, Instr.slice, hv, Sem.run_bind, run_underlying hu, Result.andThen_ok, hb, tsz_spec hz, Sem.run_pure]
              simp
            · simp only [RepD, Rep]
              refine .inl ⟨by simp, _, c, rfl, fun q => ?_⟩
              split at q
              · assumption
              · cases a with
                | none => exact hac rfl
                | some _ => simp at q
          · have hb := sliceBounds_ok (P := P) ok true xs.length cap el eh h0 h1 h2 hcap
            by_cases hcl : cap = l.toNat
            · refine ⟨.slice (some ⟨g, off, none⟩) (r.toNat - l.toNat) (cap - l.toNat), ?_, fun O => ?_⟩
              · simp only [Instr.sliceAt, Instr.slice, hv, Sem.run_bind, run_underlying hu, Result.andThen_ok, hb, tsz_spec hz, Sem.run_pure, if_pos hcl]
              · have : (xs.take r.toNat).drop l.toNat = [] := by
                  apply List.eq_nil_of_length_eq_zero; simp; omega
                rw [this]
                have hrl : r.toNat - l.toNat = 0 := by omega
                simp only [RepD, Rep, hrl]
                exact .inr ⟨g, off, cap - l.toNat, rfl, by simp, by simp; omega, by simp, by simp only [RepRows]⟩
            · refine ⟨.slice (some ⟨g, off + l.toNat * z, none⟩) (r.toNat - l.toNat) (cap - l.toNat), ?_, fun O => ?_⟩
              · simp only [Instr.sliceAt, Instr.slice, hv, Sem.run_bind, run_underlying hu, Result.andThen_ok, hb, tsz_spec hz, Sem.run_pure, if_neg hcl, Option.map_some, addr_add]
              · simp only [RepD]
                exact rep_sub (by omega) (by omega) hcap hh hzz rr _ (by omega)
        · cases e
      · cases e
    · cases e
  · cases e
theorem slice3D_ok {P t ev x lo hi mx d w h ρ re} (ok : EvOK w h ρ ev re) (e : slice3D P t ev x lo hi mx = some d) :
    ∃ v, (Instr.sliceAt t (re x) (lo.map re) (hi.map re) (some (re mx))).run P w = .ok v w ∧ ∀ O, RepD w h ρ d O v := by
  unfold slice3D at e
  split at e
  · rename_i id off z n hx
    split at e
    · rename_i el2 hts
      split at e
      · rename_i l r m el eh em
        split at e
        · rename_i hc
          obtain ⟨hz, rfl, rfl, rfl⟩ := hc
          injection e with e; subst e
          obtain ⟨O, rx⟩ := ok _ _ hx
          have hu := tslice_spec hts
          simp only [RepD] at rx
          have hv : ∃ a k c, re x = .slice a k c := by
            obtain ⟨b, hb, ⟨rfl, a, c, hv, hac⟩ | ⟨cap, _, _, _, hcap, hv, _⟩⟩ := rx
            · exact ⟨_, _, _, hv⟩
            · exact ⟨_, _, _, hv⟩
          obtain ⟨a, k, c, hv⟩ := hv
          have hb' := sliceBounds3_ok (P := P) ok true k c el eh em (by omega) (by omega) rfl (by omega)
          refine ⟨.slice a 0 0, ?_, fun O => ?_⟩
          · simp only [Instr.sliceAt, Instr.slice, hv, Sem.run_bind, run_underlying hu, Result.andThen_ok, hb', tsz_spec hz, Sem.run_pure]
            simp
          · simp only [RepD, Rep]
            exact ⟨.inl ⟨trivial, a, 0, rfl, fun _ => rfl⟩, a, rfl⟩
        · cases e
      · cases e
    · cases e
  · rename_i d' hna hx
    split at e
    · rename_i z xs el2 he hts
      split at e
      · rename_i l r m el eh em
        split at e
        · rename_i hc
          obtain ⟨hz, h0, h1, h2, rfl⟩ := hc
          injection e with e; subst e
          obtain ⟨O, rx⟩ := ok _ _ hx
          have rs := elems_rep he rx
          have hu := tslice_spec hts
          obtain ⟨a, c, hv, hlc, hac⟩ := rep_slice rs
          have hb' := sliceBounds3_ok (P := P) ok true xs.length c el eh em h0 h1 rfl (by omega)
          have hlen : ((xs.take m.toNat).drop l.toNat).length = m.toNat - l.toNat := by simp; omega
          refine ⟨.slice (if m.toNat = l.toNat then a else a.map (·.add (l.toNat * z))) (m.toNat - l.toNat) (m.toNat - l.toNat), ?_, fun O => ?_⟩
          · simp only [Instr.sliceAt, Instr.slice, hv, Sem.run_bind, run_underlying hu, Result.andThen_ok, hb', tsz_spec hz, Sem.run_pure]
          · simp only [RepD]
            refine ⟨?_, _, by rw [hlen]⟩
            by_cases hml : m.toNat = l.toNat
            · have hn : (xs.take m.toNat).drop l.toNat = [] := List.eq_nil_of_length_eq_zero (by omega)
              rw [hn, if_pos hml]
              simp only [Rep]
              exact .inl ⟨trivial, a, m.toNat - l.toNat, by simp [hml], fun _ => by omega⟩
            · rw [if_neg hml]
              simp only [Rep] at rs
              rcases rs with ⟨hx0, _⟩ | ⟨g, off, cap, hv2, hcap, hh, hzz, rr⟩
              · subst hx0; simp at h2; omega
              · rw [hv] at hv2; injection hv2 with e1 e2 e3; subst e1
                simp only [Option.map_some, addr_add]
                exact rep_sub (by omega) (by omega) hcap hh hzz rr _ (by omega)
        · cases e
      · cases e
    · cases e
  · cases e
theorem mapD_ok {w h ρ ev re} (ok : EvOK w h ρ ev re) : ∀ {xs : List Operand} {ds : List DV}, mapD ev xs = some ds → ∀ O k, RepDs w h ρ (fzs ds) O k (xs.map re)
  | [], ds, e, O, k => by simp only [mapD, Option.some.injEq] at e; subst e; simp [RepDs, fzs]
  | x :: xs, ds, e, O, k => by
    simp only [mapD] at e
    split at e
    · rename_i d ds' h1 h2
      injection e with e; subst e
      simp only [fzs, RepDs, List.map_cons]
      exact ⟨_, _, rfl, ok.fz h1 _, mapD_ok ok h2 O (k + 1)⟩
    · cases e
theorem lenD_ok {P t d r w h ρ O v} (e : lenD P t d = some r) (rd : RepD w h ρ d O v) (ty : TypeId) :
    ∃ u, (Builtin.len_ #[t] ty #[v]).run P w = .ok u w ∧ ∀ O, RepD w h ρ r O u := by
  unfold lenD at e
  have three : ∀ (n : Nat) (a : Option Addr) (c : Nat), tkind P t = some 3 → (Builtin.len_ #[t] ty #[.slice a n c]).run P w = .ok (.int .i64 n) w := by
    intro n a c ht
    obtain ⟨q, h1, h2⟩ := Option.map_eq_some_iff.1 ht
    cases q <;> simp_all
    simp [Builtin.len_, run_underlying h1, goInt]
  split at e
  · split at e
    · rename_i s ht
      injection e with e; subst e
      simp only [RepD, Rep] at rd
      subst rd
      exact ⟨.int .i64 s.size, by simp [Builtin.len_, run_underlying (tkind0 ht), goInt], fun O => by simp only [RepD, Rep]⟩
    · cases e
  · split at e
    · rename_i z xs ht
      injection e with e; subst e
      simp only [RepD] at rd
      obtain ⟨a, c, rfl, _⟩ := rep_slice rd
      exact ⟨_, three _ _ _ ht, fun O => by simp only [RepD, Rep]⟩
    · cases e
  · split at e
    · rename_i e' z xs ht
      injection e with e; subst e
      simp only [RepD] at rd
      obtain ⟨a, c, rfl, _⟩ := rep_slice rd.freeze
      exact ⟨_, three _ _ _ ht, fun O => by simp only [RepD, Rep]⟩
    · cases e
  · split at e
    · rename_i z xs ht
      injection e with e; subst e
      simp only [RepD] at rd
      obtain ⟨a, c, rfl, _⟩ := rep_slice rd.1
      exact ⟨_, three _ _ _ ht, fun O => by simp only [RepD, Rep]⟩
    · cases e
  · split at e
    · rename_i e' z ht
      injection e with e; subst e
      simp only [RepD] at rd
      obtain ⟨a, c, rfl, _⟩ := rep_slice rd.freeze
      exact ⟨_, three _ _ _ ht, fun O => by simp only [RepD, Rep]; rfl⟩
    · cases e
  · split at e
    · rename_i i o z n ht
      injection e with e; subst e
      simp only [RepD] at rd
      obtain ⟨b, _, ⟨rfl, a, c, rfl, _⟩ | ⟨cap, _, _, _, _, rfl, _⟩⟩ := rd
      · exact ⟨_, three _ _ _ ht, fun O => by simp only [RepD, Rep]⟩
      · exact ⟨_, three _ _ _ ht, fun O => by simp only [RepD, Rep]⟩
    · cases e
  · split at e
    · rename_i ht
      injection e with e; subst e
      simp only [RepD] at rd
      subst rd
      exact ⟨_, three _ _ _ ht, fun O => by simp only [RepD, Rep]; rfl⟩
    · cases e
  · cases e
end Go.Proofs.Dm

set_option linter.unusedVariables false
set_option linter.unusedSimpArgs false
namespace Go.Proofs.Dm
open Go Go.RowKit
def plainV : Value → Bool
  | .agg _ => false
  | .nilIface => false
  | _ => true
theorem eqGuard_ok {P : Program} {op t x y a b} (ha : plainV a = true) (w : World) : (eqGuard op t x y a b).run P w = .ok () w := by
  cases a <;> simp [plainV] at ha <;> cases op <;> rfl
theorem binD_guard {P t op x y r} (e : binD P t op x y = some r) {w : World} {h : Mark} {ρ O O' vx vy} (rx : RepD w h ρ x O vx) (ry : RepD w h ρ y O' vy) (ox oy : Operand) : (eqGuard op t ox oy vx vy).run P w = .ok () w := by
  unfold binD at e
  split at e
  · simp only [RepD] at rx ry
    obtain ⟨us, rfl, rx⟩ := rx
    obtain ⟨vs, rfl, ry⟩ := ry
    split at e
    · rename_i ks hks
      obtain ⟨fs, hu, h1, h2, h3⟩ := tflat_spec hks
      exact run_eqGuard_agg w op t ox oy us vs h2
    · cases e
  · simp only [RepD, Rep] at rx; subst rx; exact eqGuard_ok rfl w
  · simp only [RepD, Rep] at rx; subst rx; exact eqGuard_ok rfl w
  · simp only [RepD, Rep] at rx; subst rx; exact eqGuard_ok rfl w
  · simp only [RepD] at rx; obtain ⟨b, _, rx⟩ := rx; subst rx; exact eqGuard_ok rfl w
  · simp only [RepD, Rep] at rx; subst rx; exact eqGuard_ok rfl w
  · split at e
    · split at e
      · rename_i hb
        obtain ⟨a, n, c, rfl, _⟩ := nilK_ok hb rx
        exact eqGuard_ok rfl w
      · cases e
    · cases e
  · cases e
theorem callD_ok {P : Program} {w h ρ ev} {re : Operand → Value} (ok : EvOK w h ρ ev re) {c : Call} {ty : TypeId} {d : DV} (e : callD P ev c = some d) :
    ∃ v, (do let d ← resolve re c ty; invoke d.target d.args : Sem Next).run P w = .ok (.value v) w ∧ ∀ O, RepD w h ρ d O v := by
  obtain ⟨callee, args, types⟩ := c
  unfold callD at e
  split at e
  · rename_i hc
    dsimp only at hc e
    subst hc
    split at e
    · rename_i x t ha ht
      have ha : args = #[x] := by rw [← Array.toArray_toList (xs := args), ha]
      have ht : types = #[t] := by rw [← Array.toArray_toList (xs := types), ht]
      subst ha; subst ht
      split at e
      · rename_i d' hx
        obtain ⟨O, r⟩ := ok _ _ hx
        obtain ⟨u, h1, h2⟩ := lenD_ok e r ty
        refine ⟨u, ?_, h2⟩
        simp [resolve, invoke, builtin, h1]
      · cases e
    · cases e
  · rename_i hc
    dsimp only at hc e
    subst hc
    split at e
    · rename_i x y ha
      have ha : args = #[x, y] := by rw [← Array.toArray_toList (xs := args), ha]
      subst ha
      split at e
      · rename_i k a k' b hx hy
        split at e
        · rename_i hk
          subst hk
          injection e with e; subst e
          obtain ⟨_, rx⟩ := ok _ _ hx
          obtain ⟨_, ry⟩ := ok _ _ hy
          simp only [RepD, Rep] at rx ry
          refine ⟨.int k (if a < b then a else b), ?_, fun O => by simp only [RepD, Rep]⟩
          simp [resolve, invoke, builtin, Builtin.min_, Builtin.min2, rx, ry]
          (repeat' split) <;> omega
        · cases e
      · cases e
    · cases e
  · rename_i hc
    dsimp only at hc e
    subst hc
    split at e
    · rename_i x y ha
      have ha : args = #[x, y] := by rw [← Array.toArray_toList (xs := args), ha]
      subst ha
      split at e
      · rename_i k a k' b hx hy
        split at e
        · rename_i hk
          subst hk
          injection e with e; subst e
          obtain ⟨_, rx⟩ := ok _ _ hx
          obtain ⟨_, ry⟩ := ok _ _ hy
          simp only [RepD, Rep] at rx ry
          refine ⟨.int k (if a > b then a else b), ?_, fun O => by simp only [RepD, Rep]⟩
          simp [resolve, invoke, builtin, Builtin.max_, Builtin.max2, rx, ry]
          (repeat' split) <;> omega
        · cases e
      · cases e
    · cases e
  · cases e
theorem fieldPlace_ok {P : Program} {f : Field} {z : Nat} (hz : tsz P f.type = some z) (h0 : z ≠ 0) (a : Addr) (w : World) : (fieldPlace a f).run P w = .ok (a.add f.offset) w := by
  simp only [fieldPlace, Sem.run_bind, tsz_spec hz, Result.andThen_ok, if_neg h0, Sem.run_pure]
theorem part_agg {P : Program} {t : TypeId} {z : Nat} (hg : tagg P t = some true) (hz : tsz P t = some z) (cs : Array Value) (off : Nat) (w : World) :
    (part t cs off).run P w = .ok (.agg (cs.extract off (off + z))) w := by
  simp [part, tagg_spec hg, tsz_spec hz]
theorem part_one {P : Program} {t : TypeId} (hg : tagg P t = some false) (cs : Array Value) (off : Nat) (v : Value) (hv : cs[off]? = some v) (w : World) :
    (part t cs off).run P w = .ok v w := by
  simp [part, tagg_spec hg, hv]
theorem fzs_len : ∀ (ds : List DV), (fzs ds).length = ds.length
  | [] => rfl
  | d :: ds => by simp [fzs, fzs_len ds]
theorem fzs_get : ∀ (ds : List DV) (i : Nat), (fzs ds)[i]? = (ds[i]?).map fz
  | [], i => by simp [fzs]
  | d :: ds, 0 => by simp [fzs]
  | d :: ds, i + 1 => by simp [fzs, fzs_get ds i]
theorem RepDs.fz_any {w h ρ ds O k vs} (r : RepDs w h ρ ds O k vs) (O' k') : RepDs w h ρ (Dm.fzs ds) O' k' vs := by
  refine RepDs.of_get (by rw [fzs_len]; exact r.length) fun i d v hd hv => ?_
  rw [fzs_get] at hd
  obtain ⟨d0, h1, h2⟩ := Option.map_eq_some_iff.1 hd
  subst h2
  obtain ⟨v', a, b⟩ := r.get i d0 h1
  rw [a] at hv; injection hv with hv; subst hv
  exact RepD.fz d0 _ _ _ b
theorem RepDs.sub {w h ρ ds O k vs} (r : RepDs w h ρ ds O k vs) (off z : Nat) (O' k') : RepDs w h ρ (Dm.fzs ((ds.drop off).take z)) O' k' ((vs.drop off).take z) := by
  refine RepDs.of_get ?_ fun i d v hd hv => ?_
  · rw [fzs_len]; simp [r.length]
  · rw [fzs_get] at hd
    obtain ⟨d0, h1, h2⟩ := Option.map_eq_some_iff.1 hd
    subst h2
    rw [List.getElem?_take] at h1 hv
    split at h1
    · rename_i hi
      rw [if_pos hi] at hv
      rw [List.getElem?_drop] at h1 hv
      obtain ⟨v', a, b⟩ := r.get _ d0 h1
      rw [a] at hv; injection hv with hv; subst hv
      exact RepD.fz d0 _ _ _ b
    · cases h1
theorem pureD_ok {P : Program} {w h ρ ev} {re : Operand → Value} (ok : EvOK w h ρ ev re) {o : Oper} {d : DV} (e : pureD P ev o.op = some d) :
    ∃ v, (execOp re o).run P w = .ok (.value v) w ∧ ∀ O, RepD w h ρ d O v := by
  obtain ⟨dst, op, ty, pos, after, guard⟩ := o
  dsimp only at e
  unfold pureD at e
  split at e
  · rename_i c a b
    split at e
    · rename_i hc
      obtain ⟨d', h1, h2⟩ := Option.map_eq_some_iff.1 e
      subst h2
      obtain ⟨_, rc⟩ := ok _ _ hc
      simp only [RepD, Rep] at rc
      exact ⟨re a, by simp [execOp, rc, asBool], fun O => ok.fz h1 O⟩
    · rename_i hc
      obtain ⟨d', h1, h2⟩ := Option.map_eq_some_iff.1 e
      subst h2
      obtain ⟨_, rc⟩ := ok _ _ hc
      simp only [RepD, Rep] at rc
      exact ⟨re b, by simp [execOp, rc, asBool], fun O => ok.fz h1 O⟩
    · cases e
  · rename_i x
    split at e
    · rename_i i k hx
      injection e with e; subst e
      obtain ⟨_, rx⟩ := ok _ _ hx
      simp only [RepD] at rx
      obtain ⟨b, hb, hv⟩ := rx
      exact ⟨re x, by simp [execOp, hv], fun O => by simp only [RepD]; exact ⟨b, hb, hv⟩⟩
    · rename_i cs hx
      injection e with e; subst e
      obtain ⟨_, rx⟩ := ok _ _ hx
      simp only [RepD] at rx
      obtain ⟨g, off, hv, hr⟩ := rx
      exact ⟨re x, by simp [execOp, hv], fun O => by simp only [RepD]; exact ⟨g, off, hv, hr⟩⟩
    · rename_i f c hx
      injection e with e; subst e
      obtain ⟨_, rx⟩ := ok _ _ hx
      have rf := fun O' => ok.fz hx O'
      simp only [RepD] at rx
      obtain ⟨vs, hv, hr⟩ := rx
      exact ⟨re x, by simp [execOp, hv], fun O => by simpa only [fz] using rf O⟩
    · cases e
  · rename_i op t x y yt
    split at e
    · rename_i a b hx hy
      obtain ⟨d', h1, h2⟩ := Option.map_eq_some_iff.1 e
      subst h2
      obtain ⟨_, rx⟩ := ok _ _ hx
      obtain ⟨_, ry⟩ := ok _ _ hy
      obtain ⟨v, h3, h4⟩ := binD_ok h1 rx ry
      refine ⟨v, ?_, fun O => by simp only [RepD]; exact h4⟩
      simp only [execOp, Sem.run_bind, binD_guard h1 rx ry, Result.andThen_ok, h3, Sem.run_pure]
    · cases e
  · rename_i t x
    split at e
    · rename_i b hx
      injection e with e; subst e
      obtain ⟨_, rx⟩ := ok _ _ hx
      simp only [RepD, Rep] at rx
      exact ⟨.bool !b, by simp [execOp, rx, Op.unary], fun O => by simp only [RepD, Rep]⟩
    · cases e
  · rename_i t x
    split at e
    · rename_i k n hx
      injection e with e; subst e
      obtain ⟨_, rx⟩ := ok _ _ hx
      simp only [RepD, Rep] at rx
      exact ⟨.int k (k.wrap (0 - n)), by simp [execOp, rx, Op.unary, Op.intArith], fun O => by simp only [RepD, Rep]⟩
    · cases e
  · rename_i t x i
    split at e
    · rename_i cs off z g hx hf
      obtain ⟨fs, f, hu, hfi, hoff, hz, hg⟩ := tfield_spec hf
      obtain ⟨_, rx⟩ := ok _ _ hx
      simp only [RepD] at rx
      obtain ⟨vs, hv, hr⟩ := rx
      cases g with
      | true =>
        simp only [if_true] at e
        injection e with e; subst e
        refine ⟨.agg (vs.extract off (off + z)), ?_, fun O => ?_⟩
        · simp only [execOp, Instr.field, Sem.run_bind, run_underlying hu, Result.andThen_ok, hfi, hv, asAgg, Sem.run_pure, hoff, part_agg hg hz]
        · simp only [RepD]
          refine ⟨_, rfl, ?_⟩
          have := hr.sub off z O 0
          rw [Array.toList_extract, List.extract_eq_take_drop, Nat.add_sub_cancel_left]
          exact this
      | false =>
        simp only [Bool.false_eq_true, if_false] at e
        obtain ⟨d', h1, h2⟩ := Option.map_eq_some_iff.1 e
        subst h2
        obtain ⟨v, h3, h4⟩ := hr.get off d' h1
        refine ⟨v, ?_, fun O => RepD.fz d' _ _ _ h4⟩
        have h3' : vs[off]? = some v := by rw [← Array.getElem?_toList]; exact h3
        simp only [execOp, Instr.field, Sem.run_bind, run_underlying hu, Result.andThen_ok, hfi, hv, asAgg, Sem.run_pure, hoff, part_one hg vs off v h3']
    · cases e
  · rename_i t x i
    split at e
    · rename_i id k off z g hx hf
      obtain ⟨fs, f, hu, hfi, hoff, hz, hg⟩ := tfield_spec hf
      split at e
      · cases e
      · rename_i h0
        injection e with e; subst e
        obtain ⟨_, rx⟩ := ok _ _ hx
        simp only [RepD] at rx
        obtain ⟨b, hb, hv⟩ := rx
        refine ⟨.pointer (some ⟨b, k + off, none⟩), ?_, fun O => by simp only [RepD]; exact ⟨b, hb, rfl⟩⟩
        simp only [execOp, Instr.fieldAt, Sem.run_bind, run_underlying hu, Result.andThen_ok, hfi, hv, Instr.sureAddr, Sem.run_pure, fieldPlace_ok hz h0, hoff, addr_add]
    · rename_i cs off z g hx hf
      obtain ⟨fs, f, hu, hfi, hoff, hz, hg⟩ := tfield_spec hf
      split at e
      · cases e
      · rename_i h0
        split at e
        · rename_i hl
          injection e with e; subst e
          obtain ⟨_, rx⟩ := ok _ _ hx
          simp only [RepD] at rx
          obtain ⟨b, o', hv, hh, hr⟩ := rx
          refine ⟨.pointer (some ⟨b, o' + off, none⟩), ?_, fun O => ?_⟩
          · simp only [execOp, Instr.fieldAt, Sem.run_bind, run_underlying hu, Result.andThen_ok, hfi, hv, Instr.sureAddr, Sem.run_pure, fieldPlace_ok hz h0, hoff, addr_add]
          · simp only [RepD]
            refine ⟨b, o' + off, rfl, by simp; omega, ?_⟩
            have := RepRow.drop off hr
            have e2 : (fun j => w.cell? ⟨b, o' + off + j, none⟩) = (fun j => (fun j => w.cell? ⟨b, o' + j, none⟩) (off + j)) := by
              funext j; simp only [Nat.add_assoc]
            rw [e2]; exact this
        · cases e
    · cases e
  · rename_i t x ix
    split at e
    · rename_i id off z k kk n hx hn
      split at e
      · rename_i el hts
        split at e
        · rename_i hc
          obtain ⟨hz, h0, hlt⟩ := hc
          injection e with e; subst e
          obtain ⟨_, rx⟩ := ok _ _ hx
          obtain ⟨_, rn⟩ := ok _ _ hn
          simp only [RepD, Rep] at rn
          simp only [RepD] at rx
          have hu := tslice_spec hts
          obtain ⟨b, hb, ⟨rfl, _⟩ | ⟨cap, _, _, _, hcap, hv, _⟩⟩ := rx
          · omega
          · refine ⟨.pointer (some ⟨b, off + n.toNat * z, none⟩), ?_, fun O => by simp only [RepD]; exact ⟨b, hb, rfl⟩⟩
            simp only [execOp, Instr.indexAt, rn, hv, asIntOf, Sem.run_bind, Sem.run_pure, run_underlying hu, Result.andThen_ok, tsz_spec hz]
            rw [if_pos ⟨h0, by omega⟩]
            simp only [Sem.run_bind, Sem.run_pure, Result.andThen_ok, addr_add, tsz_spec hz]
        · cases e
      · cases e
    · rename_i d' k n hna hx hn
      split at e
      · rename_i z xs el he hts
        split at e
        · rename_i hc
          obtain ⟨hz, h0⟩ := hc
          obtain ⟨r, h1, h2⟩ := Option.map_eq_some_iff.1 e
          subst h2
          obtain ⟨_, rx⟩ := ok _ _ hx
          obtain ⟨_, rn⟩ := ok _ _ hn
          simp only [RepD, Rep] at rn
          have rs := elems_rep he rx
          simp only [Rep] at rs
          have hu := tslice_spec hts
          have hlt : n.toNat < xs.length := (List.getElem?_eq_some_iff.1 h1).1
          rcases rs with ⟨hx0, _⟩ | ⟨g, off, cap, hv, hcap, hh, hzz, rr⟩
          · subst hx0; simp at hlt
          · have hrl : r.length = z := hzz r (List.mem_of_getElem? h1)
            refine ⟨.pointer (some ⟨g, off + n.toNat * z, none⟩), ?_, fun O => ?_⟩
            · simp only [execOp, Instr.indexAt, rn, hv, asIntOf, Sem.run_bind, Sem.run_pure, run_underlying hu, Result.andThen_ok, tsz_spec hz]
              rw [if_pos ⟨h0, by omega⟩]
              simp only [Sem.run_bind, Sem.run_pure, Result.andThen_ok, addr_add, tsz_spec hz]
            · simp only [RepD]
              refine ⟨g, off + n.toNat * z, rfl, ?_, ?_⟩
              · have : (n.toNat + 1) * z ≤ xs.length * z := Nat.mul_le_mul_right _ (by omega)
                rw [Nat.add_mul, Nat.one_mul] at this
                omega
              · have := rr.get hzz _ r h1
                have e2 : (fun j => w.cell? ⟨g, off + n.toNat * z + j, none⟩) = (fun j => (fun j => w.cell? ⟨g, off + j, none⟩) (n.toNat * z + j)) := by
                  funext j; simp only [Nat.add_assoc]
                rw [e2]; exact this
        · cases e
      · cases e
    · cases e
  · rename_i t x ix
    split at e
    · rename_i s k n hx hn
      split at e
      · rename_i hc
        obtain ⟨ht, h0⟩ := hc
        split at e
        · rename_i b hb
          injection e with e; subst e
          obtain ⟨_, rx⟩ := ok _ _ hx
          obtain ⟨_, rn⟩ := ok _ _ hn
          simp only [RepD, Rep] at rx rn
          refine ⟨.int .u8 b.toNat, ?_, fun O => by simp only [RepD, Rep]⟩
          simp only [execOp, Instr.index, rn, rx, asIntOf, Sem.run_bind, Sem.run_pure, run_underlying (tkind0 ht), Result.andThen_ok, if_pos h0, hb]
        · cases e
      · cases e
    · cases e
  · rename_i t x lo hi
    obtain ⟨v, h1, h2⟩ := sliceD_ok ok e
    exact ⟨v, by simp only [execOp, Sem.run_bind, Option.map_none, h1, Result.andThen_ok, Sem.run_pure], h2⟩
  · rename_i t x lo hi mx
    obtain ⟨v, h1, h2⟩ := slice3D_ok ok e
    exact ⟨v, by simp only [execOp, Sem.run_bind, Option.map_some, h1, Result.andThen_ok, Sem.run_pure], h2⟩
  · rename_i src dst' x
    split at e
    · rename_i d' hx
      obtain ⟨_, rx⟩ := ok _ _ hx
      unfold convD at e
      split at e
      · rename_i k n
        split at e
        · rename_i k' hk
          split at e
          · rename_i hs
            injection e with e; subst e
            simp only [RepD, Rep] at rx
            obtain ⟨ds, h1, _⟩ := Option.map_eq_some_iff.1 hs
            have h2 : P.underlying dst' = some (.int k') := by
              unfold tint at hk; split at hk
              · rename_i hh; injection hk with hk; subst hk; exact hh
              · cases hk
            refine ⟨.int k' (k'.wrap n), ?_, fun O => by simp only [RepD, Rep]⟩
            simp only [execOp, convert, rx, Sem.run_bind, run_underlying h1, run_underlying h2, Result.andThen_ok, Conv.intToInt, Sem.run_pure]
          · cases e
        · cases e
      · rename_i s
        split at e
        · rename_i hs
          injection e with e; subst e
          simp only [RepD, Rep] at rx
          have h1 := tkind0 hs.2
          have h2 := tkind0 hs.1
          refine ⟨.string s, ?_, fun O => by simp only [RepD, Rep]⟩
          simp only [execOp, convert, rx, Sem.run_bind, run_underlying h1, run_underlying h2, Result.andThen_ok, Sem.run_pure]
        · cases e
      · cases e
    · cases e
  · rename_i x i
    split at e
    · rename_i ds hx
      obtain ⟨d', h1, h2⟩ := Option.map_eq_some_iff.1 e
      subst h2
      obtain ⟨_, rx⟩ := ok _ _ hx
      simp only [RepD] at rx
      obtain ⟨vs, hv, hr⟩ := rx
      obtain ⟨v, h3, h4⟩ := hr.get i d' h1
      have h3' : vs[i]? = some v := by rw [← Array.getElem?_toList]; exact h3
      exact ⟨v, by simp [execOp, Instr.extract, hv, h3'], fun O => RepD.fz d' _ _ _ h4⟩
    · cases e
  · rename_i f first cap
    split at e
    · rename_i h0
      obtain ⟨ds, h1, h2⟩ := Option.map_eq_some_iff.1 e
      subst h2
      have h0' : first = #[] := Array.eq_empty_of_size_eq_zero h0
      subst h0'
      refine ⟨.func (.func f) #[] (cap.map re), by simp [execOp, Instr.makeFunc], fun O => ?_⟩
      simp only [RepD]
      exact ⟨_, rfl, by rw [Array.toList_map]; exact mapD_ok ok h1 O 0⟩
    · cases e
  · rename_i c
    obtain ⟨v, h1, h2⟩ := callD_ok (ty := ty) ok e
    exact ⟨v, by simpa only [execOp] using h1, h2⟩
  · cases e
end Go.Proofs.Dm

set_option linter.unusedVariables false
set_option linter.unusedSimpArgs false
namespace Go.Proofs.Dm
open Go Go.RowKit
mutual
def hasOwn : DV → Bool
  | .own _ _ _ => true
  | .mt _ _ => true
  | .agg cs => hasOwns cs
  | .tup cs => hasOwns cs
  | .fn _ cs => hasOwns cs
  | _ => false
def hasOwns : List DV → Bool
  | [] => false
  | d :: ds => hasOwn d || hasOwns ds
end
mutual
theorem RepD.free {w h ρ} : ∀ (d : DV) (O O' : Nat → List Nat → Prop) (v : Value), hasOwn d = false → RepD w h ρ d O v → RepD w h ρ d O' v
  | .own e z xs, O, O', v, k, r => by simp [hasOwn] at k
  | .mt e z, O, O', v, k, r => by simp [hasOwn] at k
  | .arr _ _ _ _, O, O', v, k, r => by simpa only [RepD] using r
  | .cp _ _, O, O', v, k, r => by simpa only [RepD] using r
  | .bn _ _ _, O, O', v, k, r => by simpa only [RepD] using r
  | .nil, O, O', v, k, r => by simpa only [RepD] using r
  | .agg cs, O, O', v, k, r => by
    simp only [hasOwn] at k
    simp only [RepD] at r ⊢
    obtain ⟨vs, hv, hr⟩ := r
    exact ⟨vs, hv, RepDs.free cs O O' 0 _ k hr⟩
  | .tup cs, O, O', v, k, r => by
    simp only [hasOwn] at k
    simp only [RepD] at r ⊢
    obtain ⟨vs, hv, hr⟩ := r
    exact ⟨vs, hv, RepDs.free cs O O' 0 _ k hr⟩
  | .fn f cap, O, O', v, k, r => by
    simp only [hasOwn] at k
    simp only [RepD] at r ⊢
    obtain ⟨vs, hv, hr⟩ := r
    exact ⟨vs, hv, RepDs.free cap O O' 0 _ k hr⟩
  | .p x, O, O', v, k, r => by simpa only [RepD] using r
  | .ref id off, O, O', v, k, r => by simpa only [RepD] using r
  | .fr cs, O, O', v, k, r => by simpa only [RepD] using r
  | .un, O, O', v, k, r => by simp only [RepD]
  | .ud, O, O', v, k, r => by simpa only [RepD] using r
theorem RepDs.free {w h ρ} : ∀ (ds : List DV) (O O' : Nat → List Nat → Prop) (k : Nat) (vs : List Value), hasOwns ds = false → RepDs w h ρ ds O k vs → RepDs w h ρ ds O' k vs
  | [], _, _, _, _, _, r => by simpa only [RepDs] using r
  | d :: ds, O, O', k, vs, q, r => by
    simp only [hasOwns, Bool.or_eq_false_iff] at q
    simp only [RepDs] at r ⊢
    obtain ⟨v, rest, hv, h1, h2⟩ := r
    exact ⟨v, rest, hv, RepD.free d _ _ v q.1 h1, RepDs.free ds _ _ _ rest q.2 h2⟩
end
theorem evOK {C w0 h0 ow0 r0 n s a w h ow ρ} (r : Rel C w0 h0 ow0 r0 n s a w h ow ρ) : EvOK w h ρ (evalD s) a.eval := fun x d e => ⟨_, evalD_rep r e⟩
def coerD (P : Program) (t : TypeId) : DV → DV
  | .nil => match tslice P t with
    | some e => match tsz P e with
      | some z => if 0 < z then .own e z [] else .nil
      | none => .nil
    | none => .nil
  | d => d
theorem coerD_wk (P : Program) (t : TypeId) (d : DV) : Wk d (coerD P t d) := by
  unfold coerD
  split
  · split
    · split
      · split
        · rename_i h; exact .nilown _ _ h
        · exact .refl _
      · exact .refl _
    · exact .refl _
  · exact .refl _
theorem coerD_any {w h ρ} (P : Program) (t : TypeId) {d : DV} {v : Value} (r : ∀ O, RepD w h ρ d O v) : ∀ O, RepD w h ρ (coerD P t d) O v := fun O => RepD.wk (coerD_wk P t d) (r O)
theorem Rel.names {C w0 h0 ow0 r0 n s a w h ow ρ} (r : Rel C w0 h0 ow0 r0 n s a w h ow ρ) (ow' : Own) (s' : St) (a' : Act)
    (hnone : ∀ g, ow g = none → ow' g = none) (hsome : ∀ g, ow' g ≠ none → ow g ≠ none) (hbox : ∀ g i, ow g = some (.box i) → ow' g = some (.box i))
    (hhp : s'.hp = s.hp) (hcell : ∀ g p, ow g = some (.cell p) → ow' g = some (.cell p))
    (hdef : a'.defers = []) (hsize : a'.tmps.size = n) (hdom : ∀ i, n ≤ i → s'.tm i = .un)
    (htm : ∀ i, RepD w h ρ (s'.tm i) (fun g p => ow' g = some (.tmp (i :: p))) (a'.tmps.getD i undef)) :
    Rel C w0 h0 ow0 r0 n s' a' w h ow' ρ := by
  refine ⟨⟨r.glob.nb, fun b hb => ⟨(r.glob.eq b hb).1, hnone b (r.glob.eq b hb).2⟩⟩, ⟨r.fr.st, r.fr.size, r.fr.os, r.fr.tape, r.fr.output, fun b hb ho => ?_⟩, ?_, hdef, hsize, htm, hdom, r.pre⟩
  · obtain ⟨p, q, t⟩ := r.fr.keep b hb ho
    exact ⟨p, q, hnone b t⟩
  · rw [hhp]
    refine ⟨r.hr.len, fun id box b h1 h2 hne => ?_, fun g hg => r.hr.lt g (hsome g hg), r.hr.hz⟩
    obtain ⟨p, q, cs, T, hh, hl, hr⟩ := r.hr.box id box b h1 h2 hne
    exact ⟨hbox b id p, q, cs, T, hh, hl, hr.rename fun g p ho => hcell g _ ho⟩
def mvTmp (t d : Nat) : Pos → Pos
  | .tmp (i :: p) => if i = t then .tmp (d :: p) else .tmp (i :: p)
  | x => x
theorem Rel.moved {C w0 h0 ow0 r0 n s a w h ow ρ} (r : Rel C w0 h0 ow0 r0 n s a w h ow ρ) (t d : Nat) (hd : d < n) (dv : DV) (hk : Wk (s.tm t) dv) :
    Rel C w0 h0 ow0 r0 n ((s.put (some t) .un).put (some d) dv) (a.put (some d) (a.tmps.getD t undef)) w h (fun g => (ow g).map (mvTmp t d)) ρ := by
  have hd' : d < a.tmps.size := by rw [r.size]; exact hd
  refine r.names _ _ _ (fun g hg => by simp [hg]) (fun g hg e => hg (by simp [e])) (fun g i hg => by simp [hg, mvTmp]) rfl (fun g p hg => by simp [hg, mvTmp]) r.defers
    (by simpa [Act.put] using r.size) (fun i hi => ?_) (fun i => ?_)
  · simp only [St.put]
    rw [if_neg (fun e => by rw [e] at hi; exact absurd hi (Nat.not_le_of_gt hd))]
    split
    · rfl
    · exact r.dom i hi
  · rw [getD_put a d _ i hd']
    simp only [St.put]
    by_cases hid : i = d
    · rw [if_pos hid, if_pos hid]
      exact RepD.wk hk ((r.tm t).rename fun g p ho => by simp [ho, mvTmp, hid])
    · rw [if_neg hid, if_neg hid]
      by_cases hit : i = t
      · rw [if_pos hit]; simp only [RepD]
      · rw [if_neg hit]
        exact (r.tm i).rename fun g p ho => by simp [ho, mvTmp, hit]
def moveD (P : Program) (tk : Bool) (o : Oper) (x : Operand) (s : St) : Option St :=
  match x with
  | .tmp t => if hasOwn (s.tm t) then (if tk then (match o.dst with
      | some d => some ((s.put (some t) .un).put (some d) (s.tm t))
      | none => none) else some (s.put o.dst (fz (s.tm t)))) else some (s.put o.dst (coerD P o.type (s.tm t)))
  | x => match evalD s x with
    | some d => some (s.put o.dst (coerD P o.type d))
    | none => none
def StepOK (C : Ctx) (w0 : World) (h0 : Mark) (ow0 : Own) (r0 : List Nat) (n : Nat) (o : Oper) (s s' : St) : Prop :=
  ∀ a w h ow ρ, Rel C w0 h0 ow0 r0 n s a w h ow ρ → ∀ (K : Act → World → Prop) Q, Good C w0 h0 ow0 r0 n s' K → o.wp C.P a w K Q
theorem moveD_ok {C w0 h0 ow0 r0 n tk o x s s'} (hop : o.op = .move x ∨ o.op = .assign x) (hd : dstOk n o.dst = true) (e : moveD C.P tk o x s = some s') : StepOK C w0 h0 ow0 r0 n o s s' := by
  intro a w h ow ρ r K Q hK
  have hrun : (execOp a.eval o).run C.P w = .ok (.value (a.eval x)) w := by
    rcases hop with h | h <;> simp [execOp, h]
  unfold Oper.wp
  rw [hrun]
  show K (a.put o.dst (a.eval x)) w
  unfold moveD at e
  split at e
  · rename_i t
    split at e
    · split at e
      · split at e
        · rename_i d hdst
          injection e with e; subst e
          rw [hdst] at hd ⊢
          exact hK _ _ _ _ _ (r.moved t d (by simpa [dstOk] using hd) _ (.refl _))
        · cases e
      · injection e with e; subst e
        exact hK _ _ _ _ _ (r.put o.dst hd fun O => RepD.fz _ _ _ _ (r.tm t))
    · rename_i ho
      injection e with e; subst e
      exact hK _ _ _ _ _ (r.put o.dst hd (coerD_any C.P o.type fun O => RepD.free _ _ _ _ (by simpa using ho) (r.tm t)))
  · rename_i hx
    split at e
    · rename_i d hd'
      injection e with e; subst e
      refine hK _ _ _ _ _ (r.put o.dst hd (coerD_any C.P o.type fun O => ?_))
      have := evalD_rep r hd'
      cases x with
      | tmp t => exact absurd rfl (hx t)
      | const v => exact constD_rep hd'
      | func f => simp only [evalD, Option.some.injEq] at hd'; subst hd'; simp only [RepD, RepDs]; exact ⟨#[], rfl, rfl⟩
      | global g => simp [evalD] at hd'
    · cases e
theorem pureStep_ok {C w0 h0 ow0 r0 n o s d} (hd : dstOk n o.dst = true) (e : pureD C.P (evalD s) o.op = some d) : StepOK C w0 h0 ow0 r0 n o s (s.put o.dst d) := by
  intro a w h ow ρ r K Q hK
  obtain ⟨v, h1, h2⟩ := pureD_ok (P := C.P) (evOK r) e
  unfold Oper.wp
  rw [h1]
  exact hK _ _ _ _ _ (r.put o.dst hd h2)
def cellsOf : DV → List DV
  | .agg cs => cs
  | d => [d]
mutual
def solid : DV → Bool
  | .un => false
  | .ud => false
  | .agg _ => false
  | .tup _ => false
  | _ => true
end
theorem solid_one {w h ρ d O v} (hs : solid d = true) (r : RepD w h ρ d O v) : v.oneCell' = true := by
  cases d with
  | p x => cases x <;> simp only [RepD, Rep] at r <;> first
      | (subst r; rfl)
      | (rcases r with ⟨_, _, _, rfl, _⟩ | ⟨_, _, _, rfl, _⟩ <;> rfl)
  | nil => simp only [RepD] at r; subst r; rfl
  | own e z xs =>
    simp only [RepD] at r
    obtain ⟨a, c, rfl, _⟩ := rep_slice r.freeze
    rfl
  | ref i o => simp only [RepD] at r; obtain ⟨b, _, rfl⟩ := r; rfl
  | fr cs => simp only [RepD] at r; obtain ⟨g, off, rfl, _⟩ := r; rfl
  | fn f c => simp only [RepD] at r; obtain ⟨vs, rfl, _⟩ := r; rfl
  | un => simp [solid] at hs
  | ud => simp [solid] at hs
  | agg cs => simp [solid] at hs
  | tup cs => simp [solid] at hs
  | arr i o z n => simp only [RepD] at r; obtain ⟨b, _, ⟨_, a, c, rfl, _⟩ | ⟨cap, _, _, _, _, rfl, _⟩⟩ := r <;> rfl
  | cp z xs => simp only [RepD] at r; obtain ⟨_, a, rfl⟩ := r; rfl
  | bn i T n => simp only [RepD] at r; obtain ⟨rfl, _⟩ := r; rfl
  | mt e z =>
    simp only [RepD] at r
    obtain ⟨a, c, rfl, _⟩ := rep_slice r.freeze
    rfl
theorem RepDs.takeAll {w h ρ ds O k} {cs : Array Value} (r : RepDs w h ρ ds O k cs.toList) : RepDs w h ρ ds O k (cs.toList.take ds.length) := by
  have := r.length
  rw [List.take_of_length_le (by omega)]; exact r
theorem Rel.newBox {C w0 h0 ow0 r0 n s a w h ow ρ} (r : Rel C w0 h0 ow0 r0 n s a w h ow ρ) (d : Nat) (hd : d < n) (box : List DV) (cs : Array Value) (T : TypeId)
    (hb : ∀ O k, RepDs w h ρ box O k (cs.toList.take box.length)) :
    Rel C w0 h0 ow0 r0 n ({ s.put (some d) (.ref s.hp.length 0) with hp := s.hp ++ [box] }) (a.put (some d) (.pointer (some ⟨w.heap.size, 0, none⟩))) (w.alloc (.cells cs T)) h
      (fun g => if g = w.heap.size then some (.box ρ.length) else ow g) (ρ ++ [w.heap.size]) := by
  have hd' : d < a.tmps.size := by rw [r.size]; exact hd
  have hst : Stable w h (w.alloc (.cells cs T)) h := ⟨fun _ => Nat.le_refl _, fun b i hi => by
    have hlt : b < w.heap.size := by
      rcases Nat.lt_or_ge b w.heap.size with q | q
      · exact q
      · rw [r.hr.hz b q] at hi; omega
    simp only [World.cell?, heap_alloc_old w _ hlt], fun b cs T f q => ⟨cs, f, by rw [heap_alloc_old w _ (Array.getElem?_eq_some_iff.1 q).1]; exact q, rfl⟩⟩
  have hfresh : ow w.heap.size = none := by
    rcases hq : ow w.heap.size with _ | q
    · rfl
    · exact absurd (r.hr.lt _ (by rw [hq]; simp)) (Nat.lt_irrefl _)
  have hO : ∀ (P : Nat → List Nat → Prop) (Q : Nat → List Nat → Prop), (∀ g p, P g p → ow g ≠ none) → (∀ g p, P g p → g ≠ w.heap.size → Q g p) →
      ∀ g p, P g p → (w.alloc (.cells cs T)).heap[g]? = w.heap[g]? ∧ h g = h g ∧ Q g p := by
    intro P Q h1 h2 g p hp
    have hlt := r.hr.lt g (h1 g p hp)
    exact ⟨heap_alloc_old w _ hlt, rfl, h2 g p hp (Nat.ne_of_lt hlt)⟩
  have hρ : ∀ (i b : Nat), ρ[i]? = some b → (ρ ++ [w.heap.size])[i]? = some b := fun i b hi => by
    rw [List.getElem?_append_left (List.getElem?_eq_some_iff.1 hi).1]; exact hi
  have hfr : Fr w h ow (w.alloc (.cells cs T)) h (fun g => if g = w.heap.size then some (.box ρ.length) else ow g) :=
    ⟨hst, by simp, rfl, rfl, rfl, fun b hb ho => ⟨heap_alloc_old w _ hb, rfl, by rw [if_neg (Nat.ne_of_lt hb)]; exact ho⟩⟩
  refine ⟨r.glob.fr hfr, r.fr.trans hfr, ⟨?_, fun id bx b h1 h2 hne => ?_, fun g hg => ?_, fun b hb => r.hr.hz b (by simp at hb; omega)⟩, r.defers, by simpa [Act.put] using r.size, fun i => ?_, fun i hi => ?_, by obtain ⟨ex, hex⟩ := r.pre; exact ⟨ex ++ [w.heap.size], by rw [hex, List.append_assoc]⟩⟩
  · simp [r.hr.len, St.put]
  · simp only [St.put] at h1
    by_cases hid : id < s.hp.length
    · rw [List.getElem?_append_left hid] at h1
      rw [List.getElem?_append_left (by rw [← r.hr.len]; exact hid)] at h2
      obtain ⟨p, q, cs', T', hh, hl, hrr⟩ := r.hr.box id bx b h1 h2 hne
      have hblt := r.hr.lt b (by rw [p]; simp)
      refine ⟨by rw [if_neg (Nat.ne_of_lt hblt)]; exact p, q, cs', T', by rw [heap_alloc_old w _ hblt]; exact hh, hl, ?_⟩
      exact RepDs.step hst hρ bx _ _ 0 _ (hO _ _ (fun g p ho => by rw [ho]; simp) (fun g p ho hne => by rw [if_neg hne]; exact ho)) hrr
    · have hid' : id = s.hp.length := by
        have := (List.getElem?_eq_some_iff.1 h1).1
        simp at this; omega
      subst hid'
      simp only [List.getElem?_concat_length, Option.some.injEq] at h1
      subst h1
      rw [r.hr.len] at h2
      simp only [List.getElem?_concat_length, Option.some.injEq] at h2
      subst h2
      refine ⟨by simp [r.hr.len], r.hr.hz _ (Nat.le_refl _), cs, T, heap_alloc_new w _, by have := (hb (fun _ _ => False) 0).length; simp at this; omega, ?_⟩
      exact RepDs.step hst hρ box (fun _ _ => False) _ 0 _ (fun g p hf => hf.elim) (hb _ 0)
  · by_cases hgs : g = w.heap.size
    · subst hgs; simp
    · rw [if_neg hgs] at hg
      have := r.hr.lt g hg
      simp; omega
  · rw [getD_put a d _ i hd']
    simp only [St.put]
    by_cases hid : i = d
    · rw [if_pos hid, if_pos hid]
      simp only [RepD]
      exact ⟨w.heap.size, by rw [r.hr.len]; simp, rfl⟩
    · rw [if_neg hid, if_neg hid]
      exact RepD.step hst hρ _ _ _ _ (hO _ _ (fun g p ho => by rw [ho]; simp) (fun g p ho hne => by rw [if_neg hne]; exact ho)) (r.tm i)
  · simp only [St.put]
    rw [if_neg (fun e => by rw [e] at hi; exact absurd hi (Nat.not_le_of_gt hd))]
    exact r.dom i hi
end Go.Proofs.Dm
