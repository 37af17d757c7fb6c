/- Part of the proof: contracts of the functions, walked by the D-machine. No condition. -/
import Derived.Test.YtmbnkgagicgcoaaDoorDa
set_option linter.unusedVariables false
set_option linter.unusedSimpArgs false
namespace Go.Proofs.Dm
open Go Go.RowKit

def plainV : Value → Bool
  | .agg _ => false
  | .nilIface => false
  | _ => true
theorem eqGuard_ok {P : Program} {op t x y a b} (ha : plainV a = true) (w : World) : (eqGuard op t x y a b).run P w = .ok () w := by
  cases a <;> simp [plainV] at ha <;> cases op <;> rfl

theorem binD_guard {P t op x y r} (e : binD P t op x y = some r) {w : World} {h : Mark} {ρ O O' vx vy} (rx : RepD w h ρ x O vx) (ry : RepD w h ρ y O' vy) (ox oy : Operand) : (eqGuard op t ox oy vx vy).run P w = .ok () w := by
  unfold binD at e
  split at e
  · simp only [RepD] at rx ry
    obtain ⟨us, rfl, rx⟩ := rx
    obtain ⟨vs, rfl, ry⟩ := ry
    split at e
    · rename_i ks hks
      obtain ⟨fs, hu, h1, h2, h3⟩ := tflat_spec hks
      exact run_eqGuard_agg w op t ox oy us vs h2
    · cases e
  · simp only [RepD, Rep] at rx; subst rx; exact eqGuard_ok rfl w
  · simp only [RepD, Rep] at rx; subst rx; exact eqGuard_ok rfl w
  · simp only [RepD, Rep] at rx; subst rx; exact eqGuard_ok rfl w
  · simp only [RepD] at rx; obtain ⟨b, _, rx⟩ := rx; subst rx; exact eqGuard_ok rfl w
  · simp only [RepD, Rep] at rx; subst rx; exact eqGuard_ok rfl w
  · split at e
    · split at e
      · rename_i hb
        obtain ⟨a, n, c, rfl, _⟩ := nilK_ok hb rx
        exact eqGuard_ok rfl w
      · cases e
    · cases e
  · cases e

theorem callD_ok {P : Program} {w h ρ ev} {re : Operand → Value} (ok : EvOK w h ρ ev re) {c : Call} {ty : TypeId} {d : DV} (e : callD P ev c = some d) :
    ∃ v, (do let d ← resolve re c ty; invoke d.target d.args : Sem Next).run P w = .ok (.value v) w ∧ ∀ O, RepD w h ρ d O v := by
  obtain ⟨callee, args, types⟩ := c
  unfold callD at e
  split at e
  · rename_i hc
    dsimp only at hc e
    subst hc
    split at e
    · rename_i x t ha ht
      have ha : args = #[x] := by rw [← Array.toArray_toList (xs := args), ha]
      have ht : types = #[t] := by rw [← Array.toArray_toList (xs := types), ht]
      subst ha; subst ht
      split at e
      · rename_i d' hx
        obtain ⟨O, r⟩ := ok _ _ hx
        obtain ⟨u, h1, h2⟩ := lenD_ok e r ty
        refine ⟨u, ?_, h2⟩
        simp [resolve, invoke, builtin, h1]
      · cases e
    · cases e
  · rename_i hc
    dsimp only at hc e
    subst hc
    split at e
    · rename_i x y ha
      have ha : args = #[x, y] := by rw [← Array.toArray_toList (xs := args), ha]
      subst ha
      split at e
      · rename_i k a k' b hx hy
        split at e
        · rename_i hk
          subst hk
          injection e with e; subst e
          obtain ⟨_, rx⟩ := ok _ _ hx
          obtain ⟨_, ry⟩ := ok _ _ hy
          simp only [RepD, Rep] at rx ry
          refine ⟨.int k (if a < b then a else b), ?_, fun O => by simp only [RepD, Rep]⟩
          simp [resolve, invoke, builtin, Builtin.min_, Builtin.min2, rx, ry]
          (repeat' split) <;> omega
        · cases e
      · cases e
    · cases e
  · rename_i hc
    dsimp only at hc e
    subst hc
    split at e
    · rename_i x y ha
      have ha : args = #[x, y] := by rw [← Array.toArray_toList (xs := args), ha]
      subst ha
      split at e
      · rename_i k a k' b hx hy
        split at e
        · rename_i hk
          subst hk
          injection e with e; subst e
          obtain ⟨_, rx⟩ := ok _ _ hx
          obtain ⟨_, ry⟩ := ok _ _ hy
          simp only [RepD, Rep] at rx ry
          refine ⟨.int k (if a > b then a else b), ?_, fun O => by simp only [RepD, Rep]⟩
          simp [resolve, invoke, builtin, Builtin.max_, Builtin.max2, rx, ry]
          (repeat' split) <;> omega
        · cases e
      · cases e
    · cases e
  · cases e

theorem fieldPlace_ok {P : Program} {f : Field} {z : Nat} (hz : tsz P f.type = some z) (h0 : z ≠ 0) (a : Addr) (w : World) : (fieldPlace a f).run P w = .ok (a.add f.offset) w := by
  simp only [fieldPlace, Sem.run_bind, tsz_spec hz, Result.andThen_ok, if_neg h0, Sem.run_pure]

theorem part_agg {P : Program} {t : TypeId} {z : Nat} (hg : tagg P t = some true) (hz : tsz P t = some z) (cs : Array Value) (off : Nat) (w : World) :
    (part t cs off).run P w = .ok (.agg (cs.extract off (off + z))) w := by
  simp [part, tagg_spec hg, tsz_spec hz]
theorem part_one {P : Program} {t : TypeId} (hg : tagg P t = some false) (cs : Array Value) (off : Nat) (v : Value) (hv : cs[off]? = some v) (w : World) :
    (part t cs off).run P w = .ok v w := by
  simp [part, tagg_spec hg, hv]

theorem fzs_drop : ∀ (ds : List DV) (k : Nat), fzs (ds.drop k) = (fzs ds).drop k
  | ds, 0 => by simp
  | [], k + 1 => by simp [fzs]
  | d :: ds, k + 1 => by simp [fzs, fzs_drop ds k]
theorem fzs_take : ∀ (ds : List DV) (k : Nat), fzs (ds.take k) = (fzs ds).take k
  | ds, 0 => by simp [fzs]
  | [], k + 1 => by simp [fzs]
  | d :: ds, k + 1 => by simp [fzs, fzs_take ds k]
theorem fzs_len : ∀ (ds : List DV), (fzs ds).length = ds.length
  | [] => rfl
  | d :: ds => by simp [fzs, fzs_len ds]
theorem fzs_get : ∀ (ds : List DV) (i : Nat), (fzs ds)[i]? = (ds[i]?).map fz
  | [], i => by simp [fzs]
  | d :: ds, 0 => by simp [fzs]
  | d :: ds, i + 1 => by simp [fzs, fzs_get ds i]
/-- Frozen cells bear no owner: any owners' names do. -/
theorem RepDs.fz_any {w h ρ ds O k vs} (r : RepDs w h ρ ds O k vs) (O' k') : RepDs w h ρ (Dm.fzs ds) O' k' vs := by
  refine RepDs.of_get (by rw [fzs_len]; exact r.length) fun i d v hd hv => ?_
  rw [fzs_get] at hd
  obtain ⟨d0, h1, h2⟩ := Option.map_eq_some_iff.1 hd
  subst h2
  obtain ⟨v', a, b⟩ := r.get i d0 h1
  rw [a] at hv; injection hv with hv; subst hv
  exact RepD.fz d0 _ _ _ b
theorem RepDs.sub {w h ρ ds O k vs} (r : RepDs w h ρ ds O k vs) (off z : Nat) (O' k') : RepDs w h ρ (Dm.fzs ((ds.drop off).take z)) O' k' ((vs.drop off).take z) := by
  refine RepDs.of_get ?_ fun i d v hd hv => ?_
  · rw [fzs_len]; simp [r.length]
  · rw [fzs_get] at hd
    obtain ⟨d0, h1, h2⟩ := Option.map_eq_some_iff.1 hd
    subst h2
    rw [List.getElem?_take] at h1 hv
    split at h1
    · rename_i hi
      rw [if_pos hi] at hv
      rw [List.getElem?_drop] at h1 hv
      obtain ⟨v', a, b⟩ := r.get _ d0 h1
      rw [a] at hv; injection hv with hv; subst hv
      exact RepD.fz d0 _ _ _ b
    · cases h1

theorem pureD_ok {P : Program} {w h ρ ev} {re : Operand → Value} (ok : EvOK w h ρ ev re) {o : Oper} {d : DV} (e : pureD P ev o.op = some d) :
    ∃ v, (execOp re o).run P w = .ok (.value v) w ∧ ∀ O, RepD w h ρ d O v := by
  obtain ⟨dst, op, ty, pos, after, guard⟩ := o
  dsimp only at e
  unfold pureD at e
  split at e
  · rename_i c a b
    split at e
    · rename_i hc
      obtain ⟨d', h1, h2⟩ := Option.map_eq_some_iff.1 e
      subst h2
      obtain ⟨_, rc⟩ := ok _ _ hc
      simp only [RepD, Rep] at rc
      exact ⟨re a, by simp [execOp, rc, asBool], fun O => ok.fz h1 O⟩
    · rename_i hc
      obtain ⟨d', h1, h2⟩ := Option.map_eq_some_iff.1 e
      subst h2
      obtain ⟨_, rc⟩ := ok _ _ hc
      simp only [RepD, Rep] at rc
      exact ⟨re b, by simp [execOp, rc, asBool], fun O => ok.fz h1 O⟩
    · cases e
  · rename_i x
    split at e
    · rename_i i k hx
      injection e with e; subst e
      obtain ⟨_, rx⟩ := ok _ _ hx
      simp only [RepD] at rx
      obtain ⟨b, hb, hv⟩ := rx
      exact ⟨re x, by simp [execOp, hv], fun O => by simp only [RepD]; exact ⟨b, hb, hv⟩⟩
    · rename_i cs hx
      injection e with e; subst e
      obtain ⟨_, rx⟩ := ok _ _ hx
      simp only [RepD] at rx
      obtain ⟨g, off, hv, hr⟩ := rx
      exact ⟨re x, by simp [execOp, hv], fun O => by simp only [RepD]; exact ⟨g, off, hv, hr⟩⟩
    · rename_i f c hx
      injection e with e; subst e
      obtain ⟨_, rx⟩ := ok _ _ hx
      have rf := fun O' => ok.fz hx O'
      simp only [RepD] at rx
      obtain ⟨vs, hv, hr⟩ := rx
      exact ⟨re x, by simp [execOp, hv], fun O => by simpa only [fz] using rf O⟩
    · cases e
  · rename_i op t x y yt
    split at e
    · rename_i a b hx hy
      obtain ⟨d', h1, h2⟩ := Option.map_eq_some_iff.1 e
      subst h2
      obtain ⟨_, rx⟩ := ok _ _ hx
      obtain ⟨_, ry⟩ := ok _ _ hy
      obtain ⟨v, h3, h4⟩ := binD_ok h1 rx ry
      refine ⟨v, ?_, fun O => by simp only [RepD]; exact h4⟩
      simp only [execOp, Sem.run_bind, binD_guard h1 rx ry, Result.andThen_ok, h3, Sem.run_pure]
    · cases e
  · rename_i t x
    split at e
    · rename_i b hx
      injection e with e; subst e
      obtain ⟨_, rx⟩ := ok _ _ hx
      simp only [RepD, Rep] at rx
      exact ⟨.bool !b, by simp [execOp, rx, Op.unary], fun O => by simp only [RepD, Rep]⟩
    · cases e
  · rename_i t x
    split at e
    · rename_i k n hx
      injection e with e; subst e
      obtain ⟨_, rx⟩ := ok _ _ hx
      simp only [RepD, Rep] at rx
      exact ⟨.int k (k.wrap (0 - n)), by simp [execOp, rx, Op.unary, Op.intArith], fun O => by simp only [RepD, Rep]⟩
    · cases e
  · rename_i t x i
    split at e
    · rename_i cs off z g hx hf
      obtain ⟨fs, f, hu, hfi, hoff, hz, hg⟩ := tfield_spec hf
      obtain ⟨_, rx⟩ := ok _ _ hx
      simp only [RepD] at rx
      obtain ⟨vs, hv, hr⟩ := rx
      cases g with
      | true =>
        simp only [if_true] at e
        injection e with e; subst e
        refine ⟨.agg (vs.extract off (off + z)), ?_, fun O => ?_⟩
        · simp only [execOp, Instr.field, Sem.run_bind, run_underlying hu, Result.andThen_ok, hfi, hv, asAgg, Sem.run_pure, hoff, part_agg hg hz]
        · simp only [RepD]
          refine ⟨_, rfl, ?_⟩
          have := hr.sub off z O 0
          rw [Array.toList_extract, List.extract_eq_take_drop, Nat.add_sub_cancel_left]
          exact this
      | false =>
        simp only [Bool.false_eq_true, if_false] at e
        obtain ⟨d', h1, h2⟩ := Option.map_eq_some_iff.1 e
        subst h2
        obtain ⟨v, h3, h4⟩ := hr.get off d' h1
        refine ⟨v, ?_, fun O => RepD.fz d' _ _ _ h4⟩
        have h3' : vs[off]? = some v := by rw [← Array.getElem?_toList]; exact h3
        simp only [execOp, Instr.field, Sem.run_bind, run_underlying hu, Result.andThen_ok, hfi, hv, asAgg, Sem.run_pure, hoff, part_one hg vs off v h3']
    · cases e
  · rename_i t x i
    split at e
    · rename_i id k off z g hx hf
      obtain ⟨fs, f, hu, hfi, hoff, hz, hg⟩ := tfield_spec hf
      split at e
      · cases e
      · rename_i h0
        injection e with e; subst e
        obtain ⟨_, rx⟩ := ok _ _ hx
        simp only [RepD] at rx
        obtain ⟨b, hb, hv⟩ := rx
        refine ⟨.pointer (some ⟨b, k + off, none⟩), ?_, fun O => by simp only [RepD]; exact ⟨b, hb, rfl⟩⟩
        simp only [execOp, Instr.fieldAt, Sem.run_bind, run_underlying hu, Result.andThen_ok, hfi, hv, Instr.sureAddr, Sem.run_pure, fieldPlace_ok hz h0, hoff, addr_add]
    · rename_i cs off z g hx hf
      obtain ⟨fs, f, hu, hfi, hoff, hz, hg⟩ := tfield_spec hf
      split at e
      · cases e
      · rename_i h0
        split at e
        · rename_i hl
          injection e with e; subst e
          obtain ⟨_, rx⟩ := ok _ _ hx
          simp only [RepD] at rx
          obtain ⟨b, o', hv, hh, hr⟩ := rx
          refine ⟨.pointer (some ⟨b, o' + off, none⟩), ?_, fun O => ?_⟩
          · simp only [execOp, Instr.fieldAt, Sem.run_bind, run_underlying hu, Result.andThen_ok, hfi, hv, Instr.sureAddr, Sem.run_pure, fieldPlace_ok hz h0, hoff, addr_add]
          · simp only [RepD]
            refine ⟨b, o' + off, rfl, by simp; omega, ?_⟩
            have := RepRow.drop off hr
            have e2 : (fun j => w.cell? ⟨b, o' + off + j, none⟩) = (fun j => (fun j => w.cell? ⟨b, o' + j, none⟩) (off + j)) := by
              funext j; simp only [Nat.add_assoc]
            rw [e2]; exact this
        · cases e
    · cases e
  · rename_i t x ix
    split at e
    · rename_i id off z k kk n hx hn
      split at e
      · rename_i el hts
        split at e
        · rename_i hc
          obtain ⟨hz, h0, hlt⟩ := hc
          injection e with e; subst e
          obtain ⟨_, rx⟩ := ok _ _ hx
          obtain ⟨_, rn⟩ := ok _ _ hn
          simp only [RepD, Rep] at rn
          simp only [RepD] at rx
          have hu := tslice_spec hts
          obtain ⟨b, hb, ⟨rfl, _⟩ | ⟨cap, _, _, _, hcap, hv, _⟩⟩ := rx
          · omega
          · refine ⟨.pointer (some ⟨b, off + n.toNat * z, none⟩), ?_, fun O => by simp only [RepD]; exact ⟨b, hb, rfl⟩⟩
            simp only [execOp, Instr.indexAt, rn, hv, asIntOf, Sem.run_bind, Sem.run_pure, run_underlying hu, Result.andThen_ok, tsz_spec hz]
            rw [if_pos ⟨h0, by omega⟩]
            simp only [Sem.run_bind, Sem.run_pure, Result.andThen_ok, addr_add, tsz_spec hz]
        · cases e
      · cases e
    · rename_i d' k n hna hx hn
      split at e
      · rename_i z xs el he hts
        split at e
        · rename_i hc
          obtain ⟨hz, h0⟩ := hc
          obtain ⟨r, h1, h2⟩ := Option.map_eq_some_iff.1 e
          subst h2
          obtain ⟨_, rx⟩ := ok _ _ hx
          obtain ⟨_, rn⟩ := ok _ _ hn
          simp only [RepD, Rep] at rn
          have rs := elems_rep he rx
          simp only [Rep] at rs
          have hu := tslice_spec hts
          have hlt : n.toNat < xs.length := (List.getElem?_eq_some_iff.1 h1).1
          rcases rs with ⟨hx0, _⟩ | ⟨g, off, cap, hv, hcap, hh, hzz, rr⟩
          · subst hx0; simp at hlt
          · have hrl : r.length = z := hzz r (List.mem_of_getElem? h1)
            refine ⟨.pointer (some ⟨g, off + n.toNat * z, none⟩), ?_, fun O => ?_⟩
            · simp only [execOp, Instr.indexAt, rn, hv, asIntOf, Sem.run_bind, Sem.run_pure, run_underlying hu, Result.andThen_ok, tsz_spec hz]
              rw [if_pos ⟨h0, by omega⟩]
              simp only [Sem.run_bind, Sem.run_pure, Result.andThen_ok, addr_add, tsz_spec hz]
            · simp only [RepD]
              refine ⟨g, off + n.toNat * z, rfl, ?_, ?_⟩
              · have : (n.toNat + 1) * z ≤ xs.length * z := Nat.mul_le_mul_right _ (by omega)
                rw [Nat.add_mul, Nat.one_mul] at this
                omega
              · have := rr.get hzz _ r h1
                have e2 : (fun j => w.cell? ⟨g, off + n.toNat * z + j, none⟩) = (fun j => (fun j => w.cell? ⟨g, off + j, none⟩) (n.toNat * z + j)) := by
                  funext j; simp only [Nat.add_assoc]
                rw [e2]; exact this
        · cases e
      · cases e
    · cases e
  · rename_i t x ix
    split at e
    · rename_i s k n hx hn
      split at e
      · rename_i hc
        obtain ⟨ht, h0⟩ := hc
        split at e
        · rename_i b hb
          injection e with e; subst e
          obtain ⟨_, rx⟩ := ok _ _ hx
          obtain ⟨_, rn⟩ := ok _ _ hn
          simp only [RepD, Rep] at rx rn
          refine ⟨.int .u8 b.toNat, ?_, fun O => by simp only [RepD, Rep]⟩
          simp only [execOp, Instr.index, rn, rx, asIntOf, Sem.run_bind, Sem.run_pure, run_underlying (tkind0 ht), Result.andThen_ok, if_pos h0, hb]
        · cases e
      · cases e
    · cases e
  · rename_i t x lo hi
    obtain ⟨v, h1, h2⟩ := sliceD_ok ok e
    exact ⟨v, by simp only [execOp, Sem.run_bind, Option.map_none, h1, Result.andThen_ok, Sem.run_pure], h2⟩
  · rename_i t x lo hi mx
    obtain ⟨v, h1, h2⟩ := slice3D_ok ok e
    exact ⟨v, by simp only [execOp, Sem.run_bind, Option.map_some, h1, Result.andThen_ok, Sem.run_pure], h2⟩
  · rename_i src dst' x
    split at e
    · rename_i d' hx
      obtain ⟨_, rx⟩ := ok _ _ hx
      unfold convD at e
      split at e
      · rename_i k n
        split at e
        · rename_i k' hk
          split at e
          · rename_i hs
            injection e with e; subst e
            simp only [RepD, Rep] at rx
            obtain ⟨ds, h1, _⟩ := Option.map_eq_some_iff.1 hs
            have h2 : P.underlying dst' = some (.int k') := by
              unfold tint at hk; split at hk
              · rename_i hh; injection hk with hk; subst hk; exact hh
              · cases hk
            refine ⟨.int k' (k'.wrap n), ?_, fun O => by simp only [RepD, Rep]⟩
            simp only [execOp, convert, rx, Sem.run_bind, run_underlying h1, run_underlying h2, Result.andThen_ok, Conv.intToInt, Sem.run_pure]
          · cases e
        · cases e
      · rename_i s
        split at e
        · rename_i hs
          injection e with e; subst e
          simp only [RepD, Rep] at rx
          have h1 := tkind0 hs.2
          have h2 := tkind0 hs.1
          refine ⟨.string s, ?_, fun O => by simp only [RepD, Rep]⟩
          simp only [execOp, convert, rx, Sem.run_bind, run_underlying h1, run_underlying h2, Result.andThen_ok, Sem.run_pure]
        · cases e
      · cases e
    · cases e
  · rename_i x i
    split at e
    · rename_i ds hx
      obtain ⟨d', h1, h2⟩ := Option.map_eq_some_iff.1 e
      subst h2
      obtain ⟨_, rx⟩ := ok _ _ hx
      simp only [RepD] at rx
      obtain ⟨vs, hv, hr⟩ := rx
      obtain ⟨v, h3, h4⟩ := hr.get i d' h1
      have h3' : vs[i]? = some v := by rw [← Array.getElem?_toList]; exact h3
      exact ⟨v, by simp [execOp, Instr.extract, hv, h3'], fun O => RepD.fz d' _ _ _ h4⟩
    · cases e
  · rename_i f first cap
    split at e
    · rename_i h0
      obtain ⟨ds, h1, h2⟩ := Option.map_eq_some_iff.1 e
      subst h2
      have h0' : first = #[] := Array.eq_empty_of_size_eq_zero h0
      subst h0'
      refine ⟨.func (.func f) #[] (cap.map re), by simp [execOp, Instr.makeFunc], fun O => ?_⟩
      simp only [RepD]
      exact ⟨_, rfl, by rw [Array.toList_map]; exact mapD_ok ok h1 O 0⟩
    · cases e
  · rename_i c
    obtain ⟨v, h1, h2⟩ := callD_ok (ty := ty) ok e
    exact ⟨v, by simpa only [execOp] using h1, h2⟩
  · cases e
end Go.Proofs.Dm

set_option linter.unusedVariables false
set_option linter.unusedSimpArgs false
namespace Go.Proofs.Dm
open Go Go.RowKit

mutual
def hasOwn : DV → Bool
  | .own _ _ _ => true
  | .mt _ _ => true
  | .agg cs => hasOwns cs
  | .tup cs => hasOwns cs
  | .fn _ cs => hasOwns cs
  | _ => false
def hasOwns : List DV → Bool
  | [] => false
  | d :: ds => hasOwn d || hasOwns ds
end
mutual
theorem RepD.free {w h ρ} : ∀ (d : DV) (O O' : Nat → List Nat → Prop) (v : Value), hasOwn d = false → RepD w h ρ d O v → RepD w h ρ d O' v
  | .own e z xs, O, O', v, k, r => by simp [hasOwn] at k
  | .mt e z, O, O', v, k, r => by simp [hasOwn] at k
  | .arr _ _ _ _, O, O', v, k, r => by simpa only [RepD] using r
  | .cp _ _, O, O', v, k, r => by simpa only [RepD] using r
  | .nil, O, O', v, k, r => by simpa only [RepD] using r
  | .agg cs, O, O', v, k, r => by
    simp only [hasOwn] at k
    simp only [RepD] at r ⊢
    obtain ⟨vs, hv, hr⟩ := r
    exact ⟨vs, hv, RepDs.free cs O O' 0 _ k hr⟩
  | .tup cs, O, O', v, k, r => by
    simp only [hasOwn] at k
    simp only [RepD] at r ⊢
    obtain ⟨vs, hv, hr⟩ := r
    exact ⟨vs, hv, RepDs.free cs O O' 0 _ k hr⟩
  | .fn f cap, O, O', v, k, r => by
    simp only [hasOwn] at k
    simp only [RepD] at r ⊢
    obtain ⟨vs, hv, hr⟩ := r
    exact ⟨vs, hv, RepDs.free cap O O' 0 _ k hr⟩
  | .p x, O, O', v, k, r => by simpa only [RepD] using r
  | .ref id off, O, O', v, k, r => by simpa only [RepD] using r
  | .fr cs, O, O', v, k, r => by simpa only [RepD] using r
  | .un, O, O', v, k, r => by simp only [RepD]
  | .ud, O, O', v, k, r => by simpa only [RepD] using r
theorem RepDs.free {w h ρ} : ∀ (ds : List DV) (O O' : Nat → List Nat → Prop) (k : Nat) (vs : List Value), hasOwns ds = false → RepDs w h ρ ds O k vs → RepDs w h ρ ds O' k vs
  | [], _, _, _, _, _, r => by simpa only [RepDs] using r
  | d :: ds, O, O', k, vs, q, r => by
    simp only [hasOwns, Bool.or_eq_false_iff] at q
    simp only [RepDs] at r ⊢
    obtain ⟨v, rest, hv, h1, h2⟩ := r
    exact ⟨v, rest, hv, RepD.free d _ _ v q.1 h1, RepDs.free ds _ _ _ rest q.2 h2⟩
end
theorem evOK {C w0 h0 ow0 r0 n s a w h ow ρ} (r : Rel C w0 h0 ow0 r0 n s a w h ow ρ) : EvOK w h ρ (evalD s) a.eval := fun x d e => ⟨_, evalD_rep r e⟩

/-- nil, where the type says what of. -/
def coerD (P : Program) (t : TypeId) : DV → DV
  | .nil => match tslice P t with
    | some e => match tsz P e with
      | some z => if 0 < z then .own e z [] else .nil
      | none => .nil
    | none => .nil
  | d => d
theorem coerD_wk (P : Program) (t : TypeId) (d : DV) : Wk d (coerD P t d) := by
  unfold coerD
  split
  · split
    · split
      · split
        · rename_i h; exact .nilown _ _ h
        · exact .refl _
      · exact .refl _
    · exact .refl _
  · exact .refl _
/-- Of a value that bears no owner: coerced, it bears none. -/
theorem coerD_any {w h ρ} (P : Program) (t : TypeId) {d : DV} {v : Value} (r : ∀ O, RepD w h ρ d O v) : ∀ O, RepD w h ρ (coerD P t d) O v := fun O => RepD.wk (coerD_wk P t d) (r O)

/-- Owners' names that are handed on, where the world stays. -/
theorem Rel.names {C w0 h0 ow0 r0 n s a w h ow ρ} (r : Rel C w0 h0 ow0 r0 n s a w h ow ρ) (ow' : Own) (s' : St) (a' : Act)
    (hnone : ∀ g, ow g = none → ow' g = none) (hsome : ∀ g, ow' g ≠ none → ow g ≠ none) (hbox : ∀ g i, ow g = some (.box i) → ow' g = some (.box i))
    (hhp : s'.hp = s.hp) (hcell : ∀ g p, ow g = some (.cell p) → ow' g = some (.cell p))
    (hdef : a'.defers = []) (hsize : a'.tmps.size = n) (hdom : ∀ i, n ≤ i → s'.tm i = .un)
    (htm : ∀ i, RepD w h ρ (s'.tm i) (fun g p => ow' g = some (.tmp (i :: p))) (a'.tmps.getD i undef)) :
    Rel C w0 h0 ow0 r0 n s' a' w h ow' ρ := by
  refine ⟨⟨r.glob.nb, fun b hb => ⟨(r.glob.eq b hb).1, hnone b (r.glob.eq b hb).2⟩⟩, ⟨r.fr.st, r.fr.size, r.fr.os, r.fr.tape, r.fr.output, fun b hb ho => ?_⟩, ?_, hdef, hsize, htm, hdom, r.pre⟩
  · obtain ⟨p, q, t⟩ := r.fr.keep b hb ho
    exact ⟨p, q, hnone b t⟩
  · rw [hhp]
    refine ⟨r.hr.len, fun id box b h1 h2 hne => ?_, fun g hg => r.hr.lt g (hsome g hg), r.hr.hz⟩
    obtain ⟨p, q, cs, T, hh, hl, hr⟩ := r.hr.box id box b h1 h2 hne
    exact ⟨hbox b id p, q, cs, T, hh, hl, hr.rename fun g p ho => hcell g _ ho⟩

/-! ### A slot handed on -/
def mvTmp (t d : Nat) : Pos → Pos
  | .tmp (i :: p) => if i = t then .tmp (d :: p) else .tmp (i :: p)
  | x => x
theorem Rel.moved {C w0 h0 ow0 r0 n s a w h ow ρ} (r : Rel C w0 h0 ow0 r0 n s a w h ow ρ) (t d : Nat) (hd : d < n) (dv : DV) (hk : Wk (s.tm t) dv) :
    Rel C w0 h0 ow0 r0 n ((s.put (some t) .un).put (some d) dv) (a.put (some d) (a.tmps.getD t undef)) w h (fun g => (ow g).map (mvTmp t d)) ρ := by
  have hd' : d < a.tmps.size := by rw [r.size]; exact hd
  refine r.names _ _ _ (fun g hg => by simp [hg]) (fun g hg e => hg (by simp [e])) (fun g i hg => by simp [hg, mvTmp]) rfl (fun g p hg => by simp [hg, mvTmp]) r.defers
    (by simpa [Act.put] using r.size) (fun i hi => ?_) (fun i => ?_)
  · simp only [St.put]
    rw [if_neg (fun e => by rw [e] at hi; exact absurd hi (Nat.not_le_of_gt hd))]
    split
    · rfl
    · exact r.dom i hi
  · rw [getD_put a d _ i hd']
    simp only [St.put]
    by_cases hid : i = d
    · rw [if_pos hid, if_pos hid]
      exact RepD.wk hk ((r.tm t).rename fun g p ho => by simp [ho, mvTmp, hid])
    · rw [if_neg hid, if_neg hid]
      by_cases hit : i = t
      · rw [if_pos hit]; simp only [RepD]
      · rw [if_neg hit]
        exact (r.tm i).rename fun g p ho => by simp [ho, mvTmp, hit]

def moveD (P : Program) (tk : Bool) (o : Oper) (x : Operand) (s : St) : Option St :=
  match x with
  | .tmp t => if hasOwn (s.tm t) then (if tk then (match o.dst with
      | some d => some ((s.put (some t) .un).put (some d) (s.tm t))
      | none => none) else some (s.put o.dst (fz (s.tm t)))) else some (s.put o.dst (coerD P o.type (s.tm t)))
  | x => match evalD s x with
    | some d => some (s.put o.dst (coerD P o.type d))
    | none => none
/-- Where an operation has come to: whatever goes on from the new state goes on. -/
def StepOK (C : Ctx) (w0 : World) (h0 : Mark) (ow0 : Own) (r0 : List Nat) (n : Nat) (o : Oper) (s s' : St) : Prop :=
  ∀ a w h ow ρ, Rel C w0 h0 ow0 r0 n s a w h ow ρ → ∀ (K : Act → World → Prop) Q, Good C w0 h0 ow0 r0 n s' K → o.wp C.P a w K Q

theorem moveD_ok {C w0 h0 ow0 r0 n tk o x s s'} (hop : o.op = .move x ∨ o.op = .assign x) (hd : dstOk n o.dst = true) (e : moveD C.P tk o x s = some s') : StepOK C w0 h0 ow0 r0 n o s s' := by
  intro a w h ow ρ r K Q hK
  have hrun : (execOp a.eval o).run C.P w = .ok (.value (a.eval x)) w := by
    rcases hop with h | h <;> simp [execOp, h]
  unfold Oper.wp
  rw [hrun]
  show K (a.put o.dst (a.eval x)) w
  unfold moveD at e
  split at e
  · rename_i t
    split at e
    · split at e
      · split at e
        · rename_i d hdst
          injection e with e; subst e
          rw [hdst] at hd ⊢
          exact hK _ _ _ _ _ (r.moved t d (by simpa [dstOk] using hd) _ (.refl _))
        · cases e
      · injection e with e; subst e
        exact hK _ _ _ _ _ (r.put o.dst hd fun O => RepD.fz _ _ _ _ (r.tm t))
    · rename_i ho
      injection e with e; subst e
      exact hK _ _ _ _ _ (r.put o.dst hd (coerD_any C.P o.type fun O => RepD.free _ _ _ _ (by simpa using ho) (r.tm t)))
  · rename_i hx
    split at e
    · rename_i d hd'
      injection e with e; subst e
      refine hK _ _ _ _ _ (r.put o.dst hd (coerD_any C.P o.type fun O => ?_))
      have := evalD_rep r hd'
      cases x with
      | tmp t => exact absurd rfl (hx t)
      | const v => exact constD_rep hd'
      | func f => simp only [evalD, Option.some.injEq] at hd'; subst hd'; simp only [RepD, RepDs]; exact ⟨#[], rfl, rfl⟩
      | global g => simp [evalD] at hd'
    · cases e

/-! ### What only reckons -/
theorem pureStep_ok {C w0 h0 ow0 r0 n o s d} (hd : dstOk n o.dst = true) (e : pureD C.P (evalD s) o.op = some d) : StepOK C w0 h0 ow0 r0 n o s (s.put o.dst d) := by
  intro a w h ow ρ r K Q hK
  obtain ⟨v, h1, h2⟩ := pureD_ok (P := C.P) (evOK r) e
  unfold Oper.wp
  rw [h1]
  exact hK _ _ _ _ _ (r.put o.dst hd h2)

/-! ### A new box -/
def cellsOf : DV → List DV
  | .agg cs => cs
  | d => [d]
mutual
def solid : DV → Bool
  | .un => false
  | .ud => false
  | .agg _ => false
  | .tup _ => false
  | _ => true
end
theorem solid_one {w h ρ d O v} (hs : solid d = true) (r : RepD w h ρ d O v) : v.oneCell' = true := by
  cases d with
  | p x => cases x <;> simp only [RepD, Rep] at r <;> first
      | (subst r; rfl)
      | (rcases r with ⟨_, _, _, rfl, _⟩ | ⟨_, _, _, rfl, _⟩ <;> rfl)
  | nil => simp only [RepD] at r; subst r; rfl
  | own e z xs =>
    simp only [RepD] at r
    obtain ⟨a, c, rfl, _⟩ := rep_slice r.freeze
    rfl
  | ref i o => simp only [RepD] at r; obtain ⟨b, _, rfl⟩ := r; rfl
  | fr cs => simp only [RepD] at r; obtain ⟨g, off, rfl, _⟩ := r; rfl
  | fn f c => simp only [RepD] at r; obtain ⟨vs, rfl, _⟩ := r; rfl
  | un => simp [solid] at hs
  | ud => simp [solid] at hs
  | agg cs => simp [solid] at hs
  | tup cs => simp [solid] at hs
  | arr i o z n => simp only [RepD] at r; obtain ⟨b, _, ⟨_, a, c, rfl, _⟩ | ⟨cap, _, _, _, _, rfl, _⟩⟩ := r <;> rfl
  | cp z xs => simp only [RepD] at r; obtain ⟨_, a, rfl⟩ := r; rfl
  | mt e z =>
    simp only [RepD] at r
    obtain ⟨a, c, rfl, _⟩ := rep_slice r.freeze
    rfl

theorem RepDs.takeAll {w h ρ ds O k} {cs : Array Value} (r : RepDs w h ρ ds O k cs.toList) : RepDs w h ρ ds O k (cs.toList.take ds.length) := by
  have := r.length
  rw [List.take_of_length_le (by omega)]; exact r
/-- A new block is a new box. -/
theorem Rel.newBox {C w0 h0 ow0 r0 n s a w h ow ρ} (r : Rel C w0 h0 ow0 r0 n s a w h ow ρ) (d : Nat) (hd : d < n) (box : List DV) (cs : Array Value) (T : TypeId)
    (hb : ∀ O k, RepDs w h ρ box O k (cs.toList.take box.length)) :
    Rel C w0 h0 ow0 r0 n ({ s.put (some d) (.ref s.hp.length 0) with hp := s.hp ++ [box] }) (a.put (some d) (.pointer (some ⟨w.heap.size, 0, none⟩))) (w.alloc (.cells cs T)) h
      (fun g => if g = w.heap.size then some (.box ρ.length) else ow g) (ρ ++ [w.heap.size]) := by
  have hd' : d < a.tmps.size := by rw [r.size]; exact hd
  have hst : Stable w h (w.alloc (.cells cs T)) h := ⟨fun _ => Nat.le_refl _, fun b i hi => by
    have hlt : b < w.heap.size := by
      rcases Nat.lt_or_ge b w.heap.size with q | q
      · exact q
      · rw [r.hr.hz b q] at hi; omega
    simp only [World.cell?, heap_alloc_old w _ hlt], fun b cs T f q => ⟨cs, T, f, by rw [heap_alloc_old w _ (Array.getElem?_eq_some_iff.1 q).1]; exact q, rfl⟩⟩
  have hfresh : ow w.heap.size = none := by
    rcases hq : ow w.heap.size with _ | q
    · rfl
    · exact absurd (r.hr.lt _ (by rw [hq]; simp)) (Nat.lt_irrefl _)
  have hO : ∀ (P : Nat → List Nat → Prop) (Q : Nat → List Nat → Prop), (∀ g p, P g p → ow g ≠ none) → (∀ g p, P g p → g ≠ w.heap.size → Q g p) →
      ∀ g p, P g p → (w.alloc (.cells cs T)).heap[g]? = w.heap[g]? ∧ h g = h g ∧ Q g p := by
    intro P Q h1 h2 g p hp
    have hlt := r.hr.lt g (h1 g p hp)
    exact ⟨heap_alloc_old w _ hlt, rfl, h2 g p hp (Nat.ne_of_lt hlt)⟩
  have hρ : ∀ (i b : Nat), ρ[i]? = some b → (ρ ++ [w.heap.size])[i]? = some b := fun i b hi => by
    rw [List.getElem?_append_left (List.getElem?_eq_some_iff.1 hi).1]; exact hi
  have hfr : Fr w h ow (w.alloc (.cells cs T)) h (fun g => if g = w.heap.size then some (.box ρ.length) else ow g) :=
    ⟨hst, by simp, rfl, rfl, rfl, fun b hb ho => ⟨heap_alloc_old w _ hb, rfl, by rw [if_neg (Nat.ne_of_lt hb)]; exact ho⟩⟩
  refine ⟨r.glob.fr hfr, r.fr.trans hfr, ⟨?_, fun id bx b h1 h2 hne => ?_, fun g hg => ?_, fun b hb => r.hr.hz b (by simp at hb; omega)⟩, r.defers, by simpa [Act.put] using r.size, fun i => ?_, fun i hi => ?_, by obtain ⟨ex, hex⟩ := r.pre; exact ⟨ex ++ [w.heap.size], by rw [hex, List.append_assoc]⟩⟩
  · simp [r.hr.len, St.put]
  · simp only [St.put] at h1
    by_cases hid : id < s.hp.length
    · rw [List.getElem?_append_left hid] at h1
      rw [List.getElem?_append_left (by rw [← r.hr.len]; exact hid)] at h2
      obtain ⟨p, q, cs', T', hh, hl, hrr⟩ := r.hr.box id bx b h1 h2 hne
      have hblt := r.hr.lt b (by rw [p]; simp)
      refine ⟨by rw [if_neg (Nat.ne_of_lt hblt)]; exact p, q, cs', T', by rw [heap_alloc_old w _ hblt]; exact hh, hl, ?_⟩
      exact RepDs.step hst hρ bx _ _ 0 _ (hO _ _ (fun g p ho => by rw [ho]; simp) (fun g p ho hne => by rw [if_neg hne]; exact ho)) hrr
    · have hid' : id = s.hp.length := by
        have := (List.getElem?_eq_some_iff.1 h1).1
        simp at this; omega
      subst hid'
      simp only [List.getElem?_concat_length, Option.some.injEq] at h1
      subst h1
      rw [r.hr.len] at h2
      simp only [List.getElem?_concat_length, Option.some.injEq] at h2
      subst h2
      refine ⟨by simp [r.hr.len], r.hr.hz _ (Nat.le_refl _), cs, T, heap_alloc_new w _, by have := (hb (fun _ _ => False) 0).length; simp at this; omega, ?_⟩
      exact RepDs.step hst hρ box (fun _ _ => False) _ 0 _ (fun g p hf => hf.elim) (hb _ 0)
  · by_cases hgs : g = w.heap.size
    · subst hgs; simp
    · rw [if_neg hgs] at hg
      have := r.hr.lt g hg
      simp; omega
  · rw [getD_put a d _ i hd']
    simp only [St.put]
    by_cases hid : i = d
    · rw [if_pos hid, if_pos hid]
      simp only [RepD]
      exact ⟨w.heap.size, by rw [r.hr.len]; simp, rfl⟩
    · rw [if_neg hid, if_neg hid]
      exact RepD.step hst hρ _ _ _ _ (hO _ _ (fun g p ho => by rw [ho]; simp) (fun g p ho hne => by rw [if_neg hne]; exact ho)) (r.tm i)
  · simp only [St.put]
    rw [if_neg (fun e => by rw [e] at hi; exact absurd hi (Nat.not_le_of_gt hd))]
    exact r.dom i hi
end Go.Proofs.Dm

set_option linter.unusedVariables false
set_option linter.unusedSimpArgs false
namespace Go.Proofs.Dm
open Go Go.RowKit

/-! ### Cells' types -/
def tcellsF (P : Program) : Nat → TypeId → List TypeId
  | 0, t => [t]
  | k + 1, t => match P.underlying t with
    | some (.struct fs) => fs.toList.flatMap fun f => tcellsF P k f.type
    | _ => [t]
def tcells (P : Program) (t : TypeId) : List TypeId := tcellsF P 6 t
def tzero (P : Program) (t : TypeId) : Option Value := (P.info? t).bind (·.zero)
theorem tzero_spec {P t z} (e : tzero P t = some z) (w : World) : (zeroValue t).run P w = .ok z w := by
  obtain ⟨i, h1, h2⟩ := Option.bind_eq_some_iff.1 e
  simp [zeroValue, typeInfo, program, Sem.run, h1, h2]
def coerCells (P : Program) : List TypeId → List DV → List DV
  | t :: ts, d :: ds => coerD P t d :: coerCells P ts ds
  | _, ds => ds
theorem coerCells_wk (P : Program) : ∀ (ts : List TypeId) (ds : List DV), Wks ds (coerCells P ts ds)
  | [], ds => by
    have : ∀ ds : List DV, Wks ds ds := fun ds => by
      induction ds with
      | nil => exact .nil
      | cons d ds ih => exact .cons (.refl d) ih
    simpa only [coerCells] using this ds
  | t :: ts, [] => by simp only [coerCells]; exact .nil
  | t :: ts, d :: ds => by simp only [coerCells]; exact .cons (coerD_wk P t d) (coerCells_wk P ts ds)
theorem coerCells_len (P : Program) : ∀ (ts : List TypeId) (ds : List DV), (coerCells P ts ds).length = ds.length
  | [], ds => by simp only [coerCells]
  | t :: ts, [] => by simp only [coerCells]
  | t :: ts, d :: ds => by simp only [coerCells, List.length_cons, coerCells_len P ts ds]

/-- A value's cells: of a struct its own, else itself. -/
def flat : DV → Option (List DV)
  | .agg cs => some cs
  | d => if solid d then some [d] else none
def isAggD : DV → Bool
  | .agg _ => true
  | _ => false
theorem flat_rep {w h ρ d O v cs} (e : flat d = some cs) (r : RepD w h ρ d O v) :
    ∃ O', RepDs w h ρ cs O' 0 v.cells.toList ∧ ∀ g k p, O' g (k :: p) → O g (if isAggD d then k :: p else p) := by
  cases d with
  | agg ds =>
    simp only [flat, Option.some.injEq] at e; subst e
    simp only [RepD] at r
    obtain ⟨vs, rfl, hr⟩ := r
    exact ⟨O, by simpa only [Value.cells] using hr, fun g k p h => by simpa [isAggD] using h⟩
  | _ =>
    simp only [flat] at e
    split at e
    · rename_i hs
      injection e with e; subst e
      have h1 := solid_one hs r
      have h2 : v.cells = #[v] := by cases v <;> first | rfl | (simp [Value.oneCell'] at h1)
      refine ⟨fun g q => O g (q.drop 1), ?_, fun g k p h => by simpa [isAggD] using h⟩
      rw [h2]
      simp only [RepDs]
      exact ⟨v, [], rfl, by simpa using r, rfl⟩
    · cases e

/-! ### alloc, box -/
def zeroCells (P : Program) (t : TypeId) : Option (List DV) :=
  match tzero P t with
  | some z => match constD z with
    | some d => (flat d).map (coerCells P (tcells P t))
    | none => none
  | none => none
/-- A struct that lies behind a pointer: what is nil in it stays so till it is boxed. -/
def tptr (P : Program) (t : TypeId) : Bool := P.types.toList.any fun i => match i.desc with
  | .pointer e => e == t
  | _ => false
def coerT (P : Program) (t : TypeId) (ds : List DV) : List DV := if tptr P t then ds else coerCells P (tcells P t) ds
theorem coerT_wk (P : Program) (t : TypeId) (ds : List DV) : Wks ds (coerT P t ds) := by
  unfold coerT
  split
  · induction ds with
    | nil => exact .nil
    | cons d ds ih => exact .cons (.refl d) ih
  · exact coerCells_wk _ _ _
def zeroCellsT (P : Program) (t : TypeId) : Option (List DV) :=
  match tzero P t with
  | some z => match constD z with
    | some d => (flat d).map (coerT P t)
    | none => none
  | none => none
def allocD (P : Program) (o : Oper) (t : TypeId) (s : St) : Option St :=
  match o.dst, zeroCells P t with
  | some d, some box => some { s.put (some d) (.ref s.hp.length 0) with hp := s.hp ++ [box] }
  | _, _ => none
theorem allocD_ok {C w0 h0 ow0 r0 n o t s s'} (hop : o.op = .alloc t) (hd : dstOk n o.dst = true) (e : allocD C.P o t s = some s') : StepOK C w0 h0 ow0 r0 n o s s' := by
  intro a w h ow ρ r K Q hK
  unfold allocD at e
  split at e
  · rename_i d box hdst hz
    injection e with e; subst e
    unfold zeroCells at hz
    split at hz
    · rename_i z hz1
      split at hz
      · rename_i dz hz2
        obtain ⟨cs, hf, hc⟩ := Option.map_eq_some_iff.1 hz
        subst hc
        have hrep : ∀ O, RepD w h ρ dz O z := fun O => constD_rep hz2
        have hrun : (execOp a.eval o).run C.P w = .ok (.value (.pointer (some ⟨w.heap.size, 0, none⟩))) (w.alloc (.cells z.cells t)) := by
          simp only [execOp, hop, Instr.alloc, Sem.run_bind, tzero_spec hz1, Result.andThen_ok, newVar, newRow, newObj, Sem.run, Sem.run_pure]
          rfl
        unfold Oper.wp
        rw [hrun]
        show K (a.put o.dst _) _
        rw [hdst]
        rw [hdst] at hd
        refine hK _ _ h (fun g => if g = w.heap.size then some (.box ρ.length) else ow g) (ρ ++ [w.heap.size]) ?_
        refine r.newBox d (by simpa [dstOk] using hd) (coerCells C.P (tcells C.P t) cs) z.cells t fun O k => RepDs.takeAll (RepDs.wk (coerCells_wk _ _ _) ?_)
        obtain ⟨O', hr, _⟩ := flat_rep hf (hrep (fun _ _ => False))
        rename_i hO'
        exact RepDs.step (Stable.refl w h) (fun _ _ h => h) cs (fun _ _ => False) O k _ (fun _ _ hf => hf.elim) (by
          obtain ⟨O2, hr2, hO2⟩ := flat_rep hf (hrep (fun _ _ => False))
          refine RepDs.of_get hr2.length fun i d v hd hv => ?_
          obtain ⟨v', h1, h2⟩ := hr2.get i d hd
          rw [h1] at hv; injection hv with hv; subst hv
          exact h2.rename fun g p hg => by simpa using hO2 g (0 + i) p hg)
      · cases hz
    · cases hz
  · cases e
def boxD (P : Program) (o : Oper) (t : TypeId) (x : Operand) (s : St) : Option St :=
  match o.dst, evalD s x with
  | some d, some v => match flat v with
    | some cs => some { s.put (some d) (.ref s.hp.length 0) with hp := s.hp ++ [coerCells P (tcells P t) (fzs cs)] }
    | none => none
  | _, _ => none
theorem boxD_ok {C w0 h0 ow0 r0 n o t x s s'} (hop : o.op = .box t x) (hd : dstOk n o.dst = true) (e : boxD C.P o t x s = some s') : StepOK C w0 h0 ow0 r0 n o s s' := by
  intro a w h ow ρ r K Q hK
  unfold boxD at e
  split at e
  · rename_i d v hdst hv
    split at e
    · rename_i cs hf
      injection e with e; subst e
      have hrun : (execOp a.eval o).run C.P w = .ok (.value (.pointer (some ⟨w.heap.size, 0, none⟩))) (w.alloc (.cells (a.eval x).cells t)) := by
        simp only [execOp, hop, Instr.box, Sem.run_bind, Result.andThen_ok, newVar, newRow, newObj, Sem.run, Sem.run_pure]
        rfl
      unfold Oper.wp
      rw [hrun]
      show K (a.put o.dst _) _
      rw [hdst]
      rw [hdst] at hd
      refine hK _ _ h (fun g => if g = w.heap.size then some (.box ρ.length) else ow g) (ρ ++ [w.heap.size]) ?_
      obtain ⟨O', hr, _⟩ := flat_rep hf (evalD_rep r hv)
      exact r.newBox d (by simpa [dstOk] using hd) _ (a.eval x).cells t fun O k => RepDs.takeAll (RepDs.wk (coerCells_wk _ _ _) (hr.fz_any O k))
    · cases e
  · cases e

/-! ### load -/
def deown : DV → DV := fun d => if hasOwn d then .un else d
/-- Loaded cells as a value. -/
def asVal (g : Bool) (cs : List DV) : Option DV :=
  if g then some (.agg cs) else match cs with
    | [c] => some c
    | _ => none
def loadD (P : Program) (tk : Bool) (o : Oper) (t : TypeId) (x : Operand) (s : St) : Option St :=
  match tsz P t, tagg P t with
  | some z, some g => match evalD s x with
    | some (.ref id off) => match s.hp[id]? with
      | some box => if off + z ≤ box.length ∧ box ≠ [] then
          (if tk && hasOwns ((box.drop off).take z) then
            (match o.dst, asVal g ((box.drop off).take z) with
             | some d, some v => some { s.put (some d) v with hp := s.hp.set id (box.take off ++ ((box.drop off).take z).map deown ++ box.drop (off + z)) }
             | _, _ => none)
           else (asVal g (fzs ((box.drop off).take z))).map (s.put o.dst)) else none
      | none => none
    | some (.fr cs) => if z ≤ cs.length then (asVal g ((cs.take z).map .p)).map (s.put o.dst) else none
    | _ => none
  | _, _ => none

theorem load_run {P : Program} {t z g} (hz : tsz P t = some z) (hg : tagg P t = some g) (b off : Nat) (w : World) (vs : List Value) (hl : vs.length = z)
    (hc : ∀ j v, vs[j]? = some v → w.cell? ⟨b, off + j, none⟩ = some v) (v : Value) (hv : (g = true ∧ v = .agg vs.toArray) ∨ (g = false ∧ vs = [v])) :
    (Instr.loadAt t (.pointer (some ⟨b, off, none⟩))).run P w = .ok v w := by
  rcases hv with ⟨rfl, rfl⟩ | ⟨rfl, rfl⟩
  · have := run_loadCells_list (P := P) w ⟨b, off, none⟩ vs (fun j v hj => by rw [addr_add]; exact hc j v hj)
    rw [hl] at this
    simp only [Instr.loadAt, Instr.sureAddr, loadVar, Sem.run_bind, Sem.run_pure, Result.andThen_ok, tagg_spec hg, if_true, tsz_spec hz, this]
  · have := hc 0 v (by simp)
    simp only [Nat.add_zero] at this
    simp only [Instr.loadAt, Instr.sureAddr, loadVar, Sem.run_bind, Sem.run_pure, Result.andThen_ok, tagg_spec hg, Bool.false_eq_true, if_false, load, Sem.run, this]

theorem asVal_rep {w h ρ g cs O vs d} (e : asVal g cs = some d) (r : RepDs w h ρ cs O 0 vs) (O' : Nat → List Nat → Prop)
    (hO : ∀ q k p, O q (k :: p) → O' q (if g then k :: p else p)) : ∃ v, ((g = true ∧ v = .agg vs.toArray) ∨ (g = false ∧ vs = [v])) ∧ RepD w h ρ d O' v := by
  unfold asVal at e
  split at e
  · rename_i hg
    subst hg
    injection e with e; subst e
    refine ⟨_, .inl ⟨rfl, rfl⟩, ?_⟩
    simp only [RepD]
    refine ⟨_, rfl, ?_⟩
    refine RepDs.of_get r.length fun i d v hd hv => ?_
    obtain ⟨v', h1, h2⟩ := r.get i d hd
    have hv' : vs[i]? = some v := hv
    rw [h1] at hv'; injection hv' with hv'; subst hv'
    exact h2.rename fun q p ho => by simpa using hO q _ p ho
  · rename_i hg
    split at e
    · rename_i c
      injection e with e; subst e
      simp only [RepDs] at r
      obtain ⟨v, rest, rfl, h1, rfl⟩ := r
      exact ⟨v, .inr ⟨by simpa using hg, rfl⟩, h1.rename fun q p ho => by simpa [hg] using hO q _ p ho⟩
    · cases e

def mvLoad (id off z d : Nat) (g : Bool) : Pos → Pos
  | .cell (i :: k :: p) => if i = id ∧ off ≤ k ∧ k < off + z then .tmp (d :: (if g then (k - off) :: p else p)) else .cell (i :: k :: p)
  | x => x

theorem RepDs.append {w h ρ} : ∀ {ds es : List DV} {O k vs us}, RepDs w h ρ ds O k vs → RepDs w h ρ es O (k + ds.length) us → RepDs w h ρ (ds ++ es) O k (vs ++ us)
  | [], es, O, k, vs, us, r, q => by simp only [RepDs] at r; subst r; simpa using q
  | d :: ds, es, O, k, vs, us, r, q => by
    simp only [RepDs, List.cons_append] at r ⊢
    obtain ⟨v, rest, rfl, h1, h2⟩ := r
    refine ⟨v, rest ++ us, rfl, h1, RepDs.append h2 ?_⟩
    have e : k + (d :: ds).length = k + 1 + ds.length := by simp; omega
    rw [e] at q; exact q

theorem repDs_part {w h ρ ds O vs} (r : RepDs w h ρ ds O 0 vs) (i j : Nat) : RepDs w h ρ ((ds.drop i).take j) O i ((vs.drop i).take j) := by
  refine RepDs.of_get (by simp [r.length]) fun k d v hd hv => ?_
  rw [List.getElem?_take] at hd hv
  split at hd
  · rename_i hk
    rw [if_pos hk] at hv
    rw [List.getElem?_drop] at hd hv
    obtain ⟨v', h1, h2⟩ := r.get _ d hd
    rw [h1] at hv; injection hv with hv; subst hv
    exact h2.rename fun g p ho => by simpa using ho
  · cases hd

/-- Owners' names and boxes turn, the world stays. -/
theorem Rel.names' {C w0 h0 ow0 r0 n s a w h ow ρ} (r : Rel C w0 h0 ow0 r0 n s a w h ow ρ) (ow' : Own) (s' : St) (a' : Act)
    (hnone : ∀ g, ow g = none → ow' g = none) (hHR : HR w h ρ ow' s'.hp)
    (hdef : a'.defers = []) (hsize : a'.tmps.size = n) (hdom : ∀ i, n ≤ i → s'.tm i = .un)
    (htm : ∀ i, RepD w h ρ (s'.tm i) (fun g p => ow' g = some (.tmp (i :: p))) (a'.tmps.getD i undef)) :
    Rel C w0 h0 ow0 r0 n s' a' w h ow' ρ := by
  refine ⟨⟨r.glob.nb, fun b hb => ⟨(r.glob.eq b hb).1, hnone b (r.glob.eq b hb).2⟩⟩, ⟨r.fr.st, r.fr.size, r.fr.os, r.fr.tape, r.fr.output, fun b hb ho => ?_⟩, hHR, hdef, hsize, htm, hdom, r.pre⟩
  obtain ⟨p, q, t⟩ := r.fr.keep b hb ho
  exact ⟨p, q, hnone b t⟩
theorem splice_get {α : Type} (f : α → α) (l : List α) (off z : Nat) (hl : off + z ≤ l.length) (i : Nat) :
    (l.take off ++ ((l.drop off).take z).map f ++ l.drop (off + z))[i]? = if off ≤ i ∧ i < off + z then (l[i]?).map f else l[i]? := by
  by_cases h1 : i < off
  · rw [if_neg (by omega), List.append_assoc, List.getElem?_append_left (by simp; omega), List.getElem?_take, if_pos h1]
  · by_cases h2 : i < off + z
    · rw [if_pos ⟨by omega, h2⟩, List.getElem?_append_left (by simp; omega), List.getElem?_append_right (by simp; omega), List.getElem?_map, List.getElem?_take, List.getElem?_drop]
      have e1 : (l.take off).length = off := by simp; omega
      rw [e1, if_pos (by omega)]
      congr 2; omega
    · rw [if_neg (by omega), List.getElem?_append_right (by simp; omega), List.getElem?_drop]
      congr 1
      simp; omega

theorem loadD_ok {C w0 h0 ow0 r0 n tk o t x s s'} (hop : o.op = .load t x) (hd : dstOk n o.dst = true) (e : loadD C.P tk o t x s = some s') : StepOK C w0 h0 ow0 r0 n o s s' := by
  intro a w h ow ρ r K Q hK
  unfold loadD at e
  split at e
  · rename_i z g hz hg
    split at e
    · rename_i id off hx
      split at e
      · rename_i box hb
        split at e
        · rename_i hoff
          have hx' := evalD_rep r hx
          simp only [RepD] at hx'
          obtain ⟨b, hρ, hv⟩ := hx'
          obtain ⟨hoff, hne⟩ := hoff
          obtain ⟨p1, p2, cs, T, hh, hl0, hrr⟩ := r.hr.box id box b hb hρ hne
          have hlen := hrr.length
          have hdt : ((cs.toList.take box.length).drop off).take z = (cs.toList.drop off).take z := by
            rw [List.drop_take, List.take_take]; congr 1; omega
          have hcell : ∀ j u, ((cs.toList.drop off).take z)[j]? = some u → w.cell? ⟨b, off + j, none⟩ = some u := by
            intro j u hj
            rw [List.getElem?_take] at hj
            split at hj
            · rw [List.getElem?_drop, Array.getElem?_toList] at hj
              simp [World.cell?, hh, hj]
            · cases hj
          have hl : ((cs.toList.drop off).take z).length = z := by simp at hlen ⊢; omega
          have hsub := repDs_part hrr off z
          rw [hdt] at hsub
          have hrun : ∀ v, ((g = true ∧ v = .agg ((cs.toList.drop off).take z).toArray) ∨ (g = false ∧ (cs.toList.drop off).take z = [v])) → (execOp a.eval o).run C.P w = .ok (.value v) w := by
            intro v hvv
            simp only [execOp, hop, hv, Sem.run_bind, load_run hz hg b off w _ hl hcell v hvv, Result.andThen_ok, Sem.run_pure]
          split at e
          · split at e
            · rename_i htk d v hdst hav
              injection e with e; subst e
              have hO2 : RepDs w h ρ ((box.drop off).take z) (fun q p => match p with | k :: p' => k < z ∧ ow q = some (.cell (id :: (off + k) :: p')) | [] => False) 0 ((cs.toList.drop off).take z) := by
                refine RepDs.of_get hsub.length fun i d v hd hv => ?_
                obtain ⟨v', h1, h2⟩ := hsub.get i d hd
                rw [h1] at hv; injection hv with hv; subst hv
                have hi : i < z := by
                  have := (List.getElem?_eq_some_iff.1 h1).1
                  rw [hl] at this; exact this
                exact h2.rename fun g p ho => by simpa using ⟨hi, ho⟩
              obtain ⟨u, hu1, hu2⟩ := asVal_rep hav hO2 (fun q p => (ow q).map (mvLoad id off z d g) = some (.tmp (d :: p)))
                (fun q k p ho => by
                  obtain ⟨hk, ho⟩ := ho
                  simp only [ho, Option.map_some, mvLoad]
                  rw [if_pos ⟨trivial, by omega, by omega⟩]
                  simp)
              unfold Oper.wp
              rw [hrun u hu1]
              show K (a.put o.dst u) w
              rw [hdst] at hd ⊢
              simp only [dstOk, decide_eq_true_eq] at hd
              have hd' : d < a.tmps.size := by rw [r.size]; exact hd
              refine hK _ _ _ (fun g' => (ow g').map (mvLoad id off z d g)) ρ (r.names' _ _ _ (fun g hg => by simp [hg]) ?_ r.defers (by simpa [Act.put] using r.size) (fun i hi => ?_) (fun i => ?_))
              · refine ⟨by simp [r.hr.len], fun i bx b' h1 h2 hne' => ?_, fun g' hg' => r.hr.lt g' (fun e => hg' (by simp [e])), r.hr.hz⟩
                simp only [] at h1
                by_cases hi : i = id
                · subst hi
                  rw [hρ] at h2; injection h2 with h2; subst h2
                  have hlt : i < s.hp.length := (List.getElem?_eq_some_iff.1 hb).1
                  rw [List.getElem?_set_self hlt] at h1
                  injection h1 with h1; subst h1
                  have hbl : (box.take off ++ ((box.drop off).take z).map deown ++ box.drop (off + z)).length = box.length := by simp; omega
                  refine ⟨by simp [p1, mvLoad], p2, cs, T, hh, by rw [hbl]; exact hl0, RepDs.of_get (by rw [hbl]; exact hlen) fun k d1 v hd1 hv1 => ?_⟩
                  rw [hbl] at hv1
                  rw [splice_get deown box off z hoff k] at hd1
                  · split at hd1
                    · obtain ⟨d0, hd0, hd00⟩ := Option.map_eq_some_iff.1 hd1
                      subst hd00
                      obtain ⟨v', q1, q2⟩ := hrr.get k d0 hd0
                      rw [q1] at hv1; injection hv1 with hv1; subst hv1
                      unfold deown
                      split
                      · simp only [RepD]
                      · rename_i hno
                        exact RepD.free _ _ _ _ (by simpa using hno) q2
                    · rename_i hk
                      obtain ⟨v', q1, q2⟩ := hrr.get k d1 hd1
                      rw [q1] at hv1; injection hv1 with hv1; subst hv1
                      refine q2.rename fun g' p ho => ?_
                      simp only [Nat.zero_add] at ho ⊢
                      simp only [ho, Option.map_some, mvLoad]
                      rw [if_neg (fun q => hk ⟨q.2.1, q.2.2⟩)]
                · rw [List.getElem?_set_ne (fun e => hi e.symm)] at h1
                  obtain ⟨p1', p2', cs', T', hh', hl', hrr'⟩ := r.hr.box i bx b' h1 h2 hne'
                  refine ⟨by simp [p1', mvLoad], p2', cs', T', hh', hl', RepDs.of_get hrr'.length fun k d1 v hd1 hv1 => ?_⟩
                  obtain ⟨v', q1, q2⟩ := hrr'.get k d1 hd1
                  rw [q1] at hv1; injection hv1 with hv1; subst hv1
                  refine q2.rename fun g' p ho => ?_
                  simp only [ho, Option.map_some, mvLoad]
                  rw [if_neg (fun q => hi q.1)]
              · simp only [St.put]
                rw [if_neg (fun e => by rw [e] at hi; exact absurd hi (Nat.not_le_of_gt hd))]
                exact r.dom i hi
              · rw [getD_put a d _ i hd']
                simp only [St.put]
                by_cases hid : i = d
                · rw [if_pos hid, if_pos hid, hid]; exact hu2
                · rw [if_neg hid, if_neg hid]
                  exact (r.tm i).rename fun g p ho => by simp [ho, mvLoad]
            · cases e
          · obtain ⟨d, h1, h2⟩ := Option.map_eq_some_iff.1 e
            subst h2
            have hany : ∀ O, ∃ v, ((g = true ∧ v = .agg ((cs.toList.drop off).take z).toArray) ∨ (g = false ∧ (cs.toList.drop off).take z = [v])) ∧ RepD w h ρ d O v := fun O =>
              asVal_rep h1 (hsub.fz_any (fun _ _ => False) 0) O (fun _ _ _ hf => hf.elim)
            obtain ⟨v, hvv, _⟩ := hany (fun _ _ => False)
            unfold Oper.wp
            rw [hrun v hvv]
            refine hK _ _ _ _ _ (r.put o.dst hd fun O => ?_)
            obtain ⟨v', hvv', hr⟩ := hany O
            have : v' = v := by
              rcases hvv with ⟨q1, q2⟩ | ⟨q1, q2⟩ <;> rcases hvv' with ⟨q3, q4⟩ | ⟨q3, q4⟩ <;> simp_all
            rw [← this]; exact hr
        · cases e
      · cases e
    · rename_i cs hx
      split at e
      · rename_i hzl
        obtain ⟨d, h1, h2⟩ := Option.map_eq_some_iff.1 e
        subst h2
        have hx' := evalD_rep r hx
        simp only [RepD] at hx'
        obtain ⟨gb, off, hv, hh, hrow⟩ := hx'
        have hget : ∀ j, j < z → ∃ u, w.cell? ⟨gb, off + j, none⟩ = some u ∧ ∀ c, cs[j]? = some c → Rep w h c u := by
          intro j hj
          obtain ⟨u, q1, q2⟩ := hrow.get j cs[j] (List.getElem?_eq_getElem (by omega))
          exact ⟨u, q1, fun c hc => by rw [List.getElem?_eq_getElem (by omega)] at hc; injection hc with hc; subst hc; exact q2⟩
        have hex : ∃ vs : List Value, vs.length = z ∧ ∀ j u, vs[j]? = some u → w.cell? ⟨gb, off + j, none⟩ = some u ∧ ∀ c, cs[j]? = some c → Rep w h c u := by
          refine ⟨(List.range z).map fun j => (w.cell? ⟨gb, off + j, none⟩).getD undef, by simp, fun j u hj => ?_⟩
          rw [List.getElem?_map] at hj
          obtain ⟨i, hi1, hi2⟩ := Option.map_eq_some_iff.1 hj
          have hjz : j < z := by
            have := (List.getElem?_eq_some_iff.1 hi1).1
            simpa using this
          rw [List.getElem?_range hjz] at hi1
          injection hi1 with hi1; subst hi1
          obtain ⟨u', q1, q2⟩ := hget j hjz
          rw [q1] at hi2
          simp only [Option.getD_some] at hi2
          subst hi2
          exact ⟨q1, q2⟩
        obtain ⟨vs, hvl, hvs⟩ := hex
        have hrep : ∀ O, RepDs w h ρ ((cs.take z).map .p) O 0 vs := fun O => by
          refine RepDs.of_get (by simp [hvl]; omega) fun i d v hd hv => ?_
          rw [List.getElem?_map, List.getElem?_take] at hd
          split at hd
          · obtain ⟨c, hc1, hc2⟩ := Option.map_eq_some_iff.1 hd
            subst hc2
            simp only [RepD]
            exact (hvs i v hv).2 c hc1
          · simp at hd
        have hany : ∀ O, ∃ v, ((g = true ∧ v = .agg vs.toArray) ∨ (g = false ∧ vs = [v])) ∧ RepD w h ρ d O v := fun O =>
          asVal_rep h1 (hrep (fun _ _ => False)) O (fun _ _ _ hf => hf.elim)
        obtain ⟨v, hvv, _⟩ := hany (fun _ _ => False)
        unfold Oper.wp
        have hrun : (execOp a.eval o).run C.P w = .ok (.value v) w := by
          simp only [execOp, hop, hv, Sem.run_bind, load_run hz hg gb off w vs hvl (fun j u hj => (hvs j u hj).1) v hvv, Result.andThen_ok, Sem.run_pure]
        rw [hrun]
        refine hK _ _ _ _ _ (r.put o.dst hd fun O => ?_)
        obtain ⟨v', hvv', hr⟩ := hany O
        have : v' = v := by
          rcases hvv with ⟨q1, q2⟩ | ⟨q1, q2⟩ <;> rcases hvv' with ⟨q3, q4⟩ | ⟨q3, q4⟩ <;> simp_all
        rw [← this]; exact hr
      · cases e
    · cases e
  · cases e
end Go.Proofs.Dm
