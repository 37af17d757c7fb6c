/- The D-machine, part D: what an operation that only reckons comes to. -/
import Derived.Test.YtcacihiiilemgaaDmC
set_option linter.unusedVariables false
set_option linter.unusedSimpArgs false
namespace Go.Proofs.Dm
open Go Go.RowKit

def plainV : Value → Bool
  | .agg _ => false
  | .nilIface => false
  | _ => true
theorem eqGuard_ok {P : Program} {op t x y a b} (ha : plainV a = true) (w : World) : (eqGuard op t x y a b).run P w = .ok () w := by
  cases a <;> simp [plainV] at ha <;> cases op <;> rfl

theorem binD_plain {P t op x y r} (e : binD P t op x y = some r) {w : World} {h : Mark} {ρ O vx} (rx : RepD w h ρ x O vx) : plainV vx = true := by
  unfold binD at e
  split at e
  · simp only [RepD, Rep] at rx; subst rx; rfl
  · simp only [RepD, Rep] at rx; subst rx; rfl
  · simp only [RepD, Rep] at rx; subst rx; rfl
  · simp only [RepD] at rx; obtain ⟨b, _, rx⟩ := rx; subst rx; rfl
  · simp only [RepD, Rep] at rx; subst rx; rfl
  · split at e
    · split at e
      · rename_i hb
        obtain ⟨a, n, c, rfl, _⟩ := nilK_ok hb rx
        rfl
      · cases e
    · cases e
  · cases e

theorem callD_ok {P : Program} {w h ρ ev} {re : Operand → Value} (ok : EvOK w h ρ ev re) {c : Call} {ty : TypeId} {d : DV} (e : callD P ev c = some d) :
    ∃ v, (do let d ← resolve re c ty; invoke d.target d.args : Sem Next).run P w = .ok (.value v) w ∧ ∀ O, RepD w h ρ d O v := by
  obtain ⟨callee, args, types⟩ := c
  unfold callD at e
  split at e
  · rename_i hc
    dsimp only at hc e
    subst hc
    split at e
    · rename_i x t ha ht
      have ha : args = #[x] := by rw [← Array.toArray_toList (xs := args), ha]
      have ht : types = #[t] := by rw [← Array.toArray_toList (xs := types), ht]
      subst ha; subst ht
      split at e
      · rename_i d' hx
        obtain ⟨O, r⟩ := ok _ _ hx
        obtain ⟨u, h1, h2⟩ := lenD_ok e r ty
        refine ⟨u, ?_, h2⟩
        simp [resolve, invoke, builtin, h1]
      · cases e
    · cases e
  · rename_i hc
    dsimp only at hc e
    subst hc
    split at e
    · rename_i x y ha
      have ha : args = #[x, y] := by rw [← Array.toArray_toList (xs := args), ha]
      subst ha
      split at e
      · rename_i k a k' b hx hy
        split at e
        · rename_i hk
          subst hk
          injection e with e; subst e
          obtain ⟨_, rx⟩ := ok _ _ hx
          obtain ⟨_, ry⟩ := ok _ _ hy
          simp only [RepD, Rep] at rx ry
          refine ⟨.int k (if a < b then a else b), ?_, fun O => by simp only [RepD, Rep]⟩
          simp [resolve, invoke, builtin, Builtin.min_, Builtin.min2, rx, ry]
          (repeat' split) <;> omega
        · cases e
      · cases e
    · cases e
  · rename_i hc
    dsimp only at hc e
    subst hc
    split at e
    · rename_i x y ha
      have ha : args = #[x, y] := by rw [← Array.toArray_toList (xs := args), ha]
      subst ha
      split at e
      · rename_i k a k' b hx hy
        split at e
        · rename_i hk
          subst hk
          injection e with e; subst e
          obtain ⟨_, rx⟩ := ok _ _ hx
          obtain ⟨_, ry⟩ := ok _ _ hy
          simp only [RepD, Rep] at rx ry
          refine ⟨.int k (if a > b then a else b), ?_, fun O => by simp only [RepD, Rep]⟩
          simp [resolve, invoke, builtin, Builtin.max_, Builtin.max2, rx, ry]
          (repeat' split) <;> omega
        · cases e
      · cases e
    · cases e
  · cases e

theorem fieldPlace_ok {P : Program} {f : Field} {z : Nat} (hz : tsz P f.type = some z) (h0 : z ≠ 0) (a : Addr) (w : World) : (fieldPlace a f).run P w = .ok (a.add f.offset) w := by
  simp only [fieldPlace, Sem.run_bind, tsz_spec hz, Result.andThen_ok, if_neg h0, Sem.run_pure]

theorem part_agg {P : Program} {t : TypeId} {z : Nat} (hg : tagg P t = some true) (hz : tsz P t = some z) (cs : Array Value) (off : Nat) (w : World) :
    (part t cs off).run P w = .ok (.agg (cs.extract off (off + z))) w := by
  simp [part, tagg_spec hg, tsz_spec hz]
theorem part_one {P : Program} {t : TypeId} (hg : tagg P t = some false) (cs : Array Value) (off : Nat) (v : Value) (hv : cs[off]? = some v) (w : World) :
    (part t cs off).run P w = .ok v w := by
  simp [part, tagg_spec hg, hv]

theorem fzs_drop : ∀ (ds : List DV) (k : Nat), fzs (ds.drop k) = (fzs ds).drop k
  | ds, 0 => by simp
  | [], k + 1 => by simp [fzs]
  | d :: ds, k + 1 => by simp [fzs, fzs_drop ds k]
theorem fzs_take : ∀ (ds : List DV) (k : Nat), fzs (ds.take k) = (fzs ds).take k
  | ds, 0 => by simp [fzs]
  | [], k + 1 => by simp [fzs]
  | d :: ds, k + 1 => by simp [fzs, fzs_take ds k]
theorem fzs_len : ∀ (ds : List DV), (fzs ds).length = ds.length
  | [] => rfl
  | d :: ds => by simp [fzs, fzs_len ds]
theorem fzs_get : ∀ (ds : List DV) (i : Nat), (fzs ds)[i]? = (ds[i]?).map fz
  | [], i => by simp [fzs]
  | d :: ds, 0 => by simp [fzs]
  | d :: ds, i + 1 => by simp [fzs, fzs_get ds i]
/-- Frozen cells bear no owner: any owners' names do. -/
theorem RepDs.fz_any {w h ρ ds O k vs} (r : RepDs w h ρ ds O k vs) (O' k') : RepDs w h ρ (Dm.fzs ds) O' k' vs := by
  refine RepDs.of_get (by rw [fzs_len]; exact r.length) fun i d v hd hv => ?_
  rw [fzs_get] at hd
  obtain ⟨d0, h1, h2⟩ := Option.map_eq_some_iff.1 hd
  subst h2
  obtain ⟨v', a, b⟩ := r.get i d0 h1
  rw [a] at hv; injection hv with hv; subst hv
  exact RepD.fz d0 _ _ _ b
theorem RepDs.sub {w h ρ ds O k vs} (r : RepDs w h ρ ds O k vs) (off z : Nat) (O' k') : RepDs w h ρ (Dm.fzs ((ds.drop off).take z)) O' k' ((vs.drop off).take z) := by
  refine RepDs.of_get ?_ fun i d v hd hv => ?_
  · rw [fzs_len]; simp [r.length]
  · rw [fzs_get] at hd
    obtain ⟨d0, h1, h2⟩ := Option.map_eq_some_iff.1 hd
    subst h2
    rw [List.getElem?_take] at h1 hv
    split at h1
    · rename_i hi
      rw [if_pos hi] at hv
      rw [List.getElem?_drop] at h1 hv
      obtain ⟨v', a, b⟩ := r.get _ d0 h1
      rw [a] at hv; injection hv with hv; subst hv
      exact RepD.fz d0 _ _ _ b
    · cases h1

theorem pureD_ok {P : Program} {w h ρ ev} {re : Operand → Value} (ok : EvOK w h ρ ev re) {o : Oper} {d : DV} (e : pureD P ev o.op = some d) :
    ∃ v, (execOp re o).run P w = .ok (.value v) w ∧ ∀ O, RepD w h ρ d O v := by
  obtain ⟨dst, op, ty, pos, after, guard⟩ := o
  dsimp only at e
  unfold pureD at e
  split at e
  · rename_i c a b
    split at e
    · rename_i hc
      obtain ⟨d', h1, h2⟩ := Option.map_eq_some_iff.1 e
      subst h2
      obtain ⟨_, rc⟩ := ok _ _ hc
      simp only [RepD, Rep] at rc
      exact ⟨re a, by simp [execOp, rc, asBool], fun O => ok.fz h1 O⟩
    · rename_i hc
      obtain ⟨d', h1, h2⟩ := Option.map_eq_some_iff.1 e
      subst h2
      obtain ⟨_, rc⟩ := ok _ _ hc
      simp only [RepD, Rep] at rc
      exact ⟨re b, by simp [execOp, rc, asBool], fun O => ok.fz h1 O⟩
    · cases e
  · rename_i x
    split at e
    · rename_i i k hx
      injection e with e; subst e
      obtain ⟨_, rx⟩ := ok _ _ hx
      simp only [RepD] at rx
      obtain ⟨b, hb, hv⟩ := rx
      exact ⟨re x, by simp [execOp, hv], fun O => by simp only [RepD]; exact ⟨b, hb, hv⟩⟩
    · rename_i cs hx
      injection e with e; subst e
      obtain ⟨_, rx⟩ := ok _ _ hx
      simp only [RepD] at rx
      obtain ⟨g, off, hv, hr⟩ := rx
      exact ⟨re x, by simp [execOp, hv], fun O => by simp only [RepD]; exact ⟨g, off, hv, hr⟩⟩
    · rename_i f c hx
      injection e with e; subst e
      obtain ⟨_, rx⟩ := ok _ _ hx
      have rf := fun O' => ok.fz hx O'
      simp only [RepD] at rx
      obtain ⟨vs, hv, hr⟩ := rx
      exact ⟨re x, by simp [execOp, hv], fun O => by simpa only [fz] using rf O⟩
    · cases e
  · rename_i op t x y yt
    split at e
    · rename_i a b hx hy
      obtain ⟨d', h1, h2⟩ := Option.map_eq_some_iff.1 e
      subst h2
      obtain ⟨_, rx⟩ := ok _ _ hx
      obtain ⟨_, ry⟩ := ok _ _ hy
      obtain ⟨v, h3, h4⟩ := binD_ok h1 rx ry
      refine ⟨v, ?_, fun O => by simp only [RepD]; exact h4⟩
      simp only [execOp, Sem.run_bind, eqGuard_ok (binD_plain h1 rx), Result.andThen_ok, h3, Sem.run_pure]
    · cases e
  · rename_i t x
    split at e
    · rename_i b hx
      injection e with e; subst e
      obtain ⟨_, rx⟩ := ok _ _ hx
      simp only [RepD, Rep] at rx
      exact ⟨.bool !b, by simp [execOp, rx, Op.unary], fun O => by simp only [RepD, Rep]⟩
    · cases e
  · rename_i t x
    split at e
    · rename_i k n hx
      injection e with e; subst e
      obtain ⟨_, rx⟩ := ok _ _ hx
      simp only [RepD, Rep] at rx
      exact ⟨.int k (k.wrap (0 - n)), by simp [execOp, rx, Op.unary, Op.intArith], fun O => by simp only [RepD, Rep]⟩
    · cases e
  · rename_i t x i
    split at e
    · rename_i cs off z g hx hf
      obtain ⟨fs, f, hu, hfi, hoff, hz, hg⟩ := tfield_spec hf
      obtain ⟨_, rx⟩ := ok _ _ hx
      simp only [RepD] at rx
      obtain ⟨vs, hv, hr⟩ := rx
      cases g with
      | true =>
        simp only [if_true] at e
        injection e with e; subst e
        refine ⟨.agg (vs.extract off (off + z)), ?_, fun O => ?_⟩
        · simp only [execOp, Instr.field, Sem.run_bind, run_underlying hu, Result.andThen_ok, hfi, hv, asAgg, Sem.run_pure, hoff, part_agg hg hz]
        · simp only [RepD]
          refine ⟨_, rfl, ?_⟩
          have := hr.sub off z O 0
          rw [Array.toList_extract, List.extract_eq_take_drop, Nat.add_sub_cancel_left]
          exact this
      | false =>
        simp only [Bool.false_eq_true, if_false] at e
        obtain ⟨d', h1, h2⟩ := Option.map_eq_some_iff.1 e
        subst h2
        obtain ⟨v, h3, h4⟩ := hr.get off d' h1
        refine ⟨v, ?_, fun O => RepD.fz d' _ _ _ h4⟩
        have h3' : vs[off]? = some v := by rw [← Array.getElem?_toList]; exact h3
        simp only [execOp, Instr.field, Sem.run_bind, run_underlying hu, Result.andThen_ok, hfi, hv, asAgg, Sem.run_pure, hoff, part_one hg vs off v h3']
    · cases e
  · rename_i t x i
    split at e
    · rename_i id k off z g hx hf
      obtain ⟨fs, f, hu, hfi, hoff, hz, hg⟩ := tfield_spec hf
      split at e
      · cases e
      · rename_i h0
        injection e with e; subst e
        obtain ⟨_, rx⟩ := ok _ _ hx
        simp only [RepD] at rx
        obtain ⟨b, hb, hv⟩ := rx
        refine ⟨.pointer (some ⟨b, k + off, none⟩), ?_, fun O => by simp only [RepD]; exact ⟨b, hb, rfl⟩⟩
        simp only [execOp, Instr.fieldAt, Sem.run_bind, run_underlying hu, Result.andThen_ok, hfi, hv, Instr.sureAddr, Sem.run_pure, fieldPlace_ok hz h0, hoff, addr_add]
    · rename_i cs off z g hx hf
      obtain ⟨fs, f, hu, hfi, hoff, hz, hg⟩ := tfield_spec hf
      split at e
      · cases e
      · rename_i h0
        split at e
        · rename_i hl
          injection e with e; subst e
          obtain ⟨_, rx⟩ := ok _ _ hx
          simp only [RepD] at rx
          obtain ⟨b, o', hv, hh, hr⟩ := rx
          refine ⟨.pointer (some ⟨b, o' + off, none⟩), ?_, fun O => ?_⟩
          · simp only [execOp, Instr.fieldAt, Sem.run_bind, run_underlying hu, Result.andThen_ok, hfi, hv, Instr.sureAddr, Sem.run_pure, fieldPlace_ok hz h0, hoff, addr_add]
          · simp only [RepD]
            refine ⟨b, o' + off, rfl, by simp; omega, ?_⟩
            have := RepRow.drop off hr
            have e2 : (fun j => w.cell? ⟨b, o' + off + j, none⟩) = (fun j => (fun j => w.cell? ⟨b, o' + j, none⟩) (off + j)) := by
              funext j; simp only [Nat.add_assoc]
            rw [e2]; exact this
        · cases e
    · cases e
  · rename_i t x ix
    split at e
    · rename_i id off z k kk n hx hn
      split at e
      · rename_i el hts
        split at e
        · rename_i hc
          obtain ⟨hz, h0, hlt⟩ := hc
          injection e with e; subst e
          obtain ⟨_, rx⟩ := ok _ _ hx
          obtain ⟨_, rn⟩ := ok _ _ hn
          simp only [RepD, Rep] at rn
          simp only [RepD] at rx
          have hu := tslice_spec hts
          obtain ⟨b, hb, ⟨rfl, _⟩ | ⟨cap, _, _, _, hcap, hv, _⟩⟩ := rx
          · omega
          · refine ⟨.pointer (some ⟨b, off + n.toNat * z, none⟩), ?_, fun O => by simp only [RepD]; exact ⟨b, hb, rfl⟩⟩
            simp only [execOp, Instr.indexAt, rn, hv, asIntOf, Sem.run_bind, Sem.run_pure, run_underlying hu, Result.andThen_ok, tsz_spec hz]
            rw [if_pos ⟨h0, by omega⟩]
            simp only [Sem.run_bind, Sem.run_pure, Result.andThen_ok, addr_add, tsz_spec hz]
        · cases e
      · cases e
    · rename_i d' k n hna hx hn
      split at e
      · rename_i z xs el he hts
        split at e
        · rename_i hc
          obtain ⟨hz, h0⟩ := hc
          obtain ⟨r, h1, h2⟩ := Option.map_eq_some_iff.1 e
          subst h2
          obtain ⟨_, rx⟩ := ok _ _ hx
          obtain ⟨_, rn⟩ := ok _ _ hn
          simp only [RepD, Rep] at rn
          have rs := elems_rep he rx
          simp only [Rep] at rs
          have hu := tslice_spec hts
          have hlt : n.toNat < xs.length := (List.getElem?_eq_some_iff.1 h1).1
          rcases rs with ⟨hx0, _⟩ | ⟨g, off, cap, hv, hcap, hh, hzz, rr⟩
          · subst hx0; simp at hlt
          · have hrl : r.length = z := hzz r (List.mem_of_getElem? h1)
            refine ⟨.pointer (some ⟨g, off + n.toNat * z, none⟩), ?_, fun O => ?_⟩
            · simp only [execOp, Instr.indexAt, rn, hv, asIntOf, Sem.run_bind, Sem.run_pure, run_underlying hu, Result.andThen_ok, tsz_spec hz]
              rw [if_pos ⟨h0, by omega⟩]
              simp only [Sem.run_bind, Sem.run_pure, Result.andThen_ok, addr_add, tsz_spec hz]
            · simp only [RepD]
              refine ⟨g, off + n.toNat * z, rfl, ?_, ?_⟩
              · have : (n.toNat + 1) * z ≤ xs.length * z := Nat.mul_le_mul_right _ (by omega)
                rw [Nat.add_mul, Nat.one_mul] at this
                omega
              · have := rr.get hzz _ r h1
                have e2 : (fun j => w.cell? ⟨g, off + n.toNat * z + j, none⟩) = (fun j => (fun j => w.cell? ⟨g, off + j, none⟩) (n.toNat * z + j)) := by
                  funext j; simp only [Nat.add_assoc]
                rw [e2]; exact this
        · cases e
      · cases e
    · cases e
  · rename_i t x ix
    split at e
    · rename_i s k n hx hn
      split at e
      · rename_i hc
        obtain ⟨ht, h0⟩ := hc
        split at e
        · rename_i b hb
          injection e with e; subst e
          obtain ⟨_, rx⟩ := ok _ _ hx
          obtain ⟨_, rn⟩ := ok _ _ hn
          simp only [RepD, Rep] at rx rn
          refine ⟨.int .u8 b.toNat, ?_, fun O => by simp only [RepD, Rep]⟩
          simp only [execOp, Instr.index, rn, rx, asIntOf, Sem.run_bind, Sem.run_pure, run_underlying (tkind0 ht), Result.andThen_ok, if_pos h0, hb]
        · cases e
      · cases e
    · cases e
  · rename_i t x lo hi
    obtain ⟨v, h1, h2⟩ := sliceD_ok ok e
    exact ⟨v, by simp only [execOp, Sem.run_bind, Option.map_none, h1, Result.andThen_ok, Sem.run_pure], h2⟩
  · rename_i t x lo hi mx
    obtain ⟨v, h1, h2⟩ := slice3D_ok ok e
    exact ⟨v, by simp only [execOp, Sem.run_bind, Option.map_some, h1, Result.andThen_ok, Sem.run_pure], h2⟩
  · rename_i src dst' x
    split at e
    · rename_i d' hx
      obtain ⟨_, rx⟩ := ok _ _ hx
      unfold convD at e
      split at e
      · rename_i k n
        split at e
        · rename_i k' hk
          split at e
          · rename_i hs
            injection e with e; subst e
            simp only [RepD, Rep] at rx
            obtain ⟨ds, h1, _⟩ := Option.map_eq_some_iff.1 hs
            have h2 : P.underlying dst' = some (.int k') := by
              unfold tint at hk; split at hk
              · rename_i hh; injection hk with hk; subst hk; exact hh
              · cases hk
            refine ⟨.int k' (k'.wrap n), ?_, fun O => by simp only [RepD, Rep]⟩
            simp only [execOp, convert, rx, Sem.run_bind, run_underlying h1, run_underlying h2, Result.andThen_ok, Conv.intToInt, Sem.run_pure]
          · cases e
        · cases e
      · rename_i s
        split at e
        · rename_i hs
          injection e with e; subst e
          simp only [RepD, Rep] at rx
          have h1 := tkind0 hs.2
          have h2 := tkind0 hs.1
          refine ⟨.string s, ?_, fun O => by simp only [RepD, Rep]⟩
          simp only [execOp, convert, rx, Sem.run_bind, run_underlying h1, run_underlying h2, Result.andThen_ok, Sem.run_pure]
        · cases e
      · cases e
    · cases e
  · rename_i x i
    split at e
    · rename_i ds hx
      obtain ⟨d', h1, h2⟩ := Option.map_eq_some_iff.1 e
      subst h2
      obtain ⟨_, rx⟩ := ok _ _ hx
      simp only [RepD] at rx
      obtain ⟨vs, hv, hr⟩ := rx
      obtain ⟨v, h3, h4⟩ := hr.get i d' h1
      have h3' : vs[i]? = some v := by rw [← Array.getElem?_toList]; exact h3
      exact ⟨v, by simp [execOp, Instr.extract, hv, h3'], fun O => RepD.fz d' _ _ _ h4⟩
    · cases e
  · rename_i f first cap
    split at e
    · rename_i h0
      obtain ⟨ds, h1, h2⟩ := Option.map_eq_some_iff.1 e
      subst h2
      have h0' : first = #[] := Array.eq_empty_of_size_eq_zero h0
      subst h0'
      refine ⟨.func (.func f) #[] (cap.map re), by simp [execOp, Instr.makeFunc], fun O => ?_⟩
      simp only [RepD]
      exact ⟨_, rfl, by rw [Array.toList_map]; exact mapD_ok ok h1 O 0⟩
    · cases e
  · rename_i c
    obtain ⟨v, h1, h2⟩ := callD_ok (ty := ty) ok e
    exact ⟨v, by simpa only [execOp] using h1, h2⟩
  · cases e
end Go.Proofs.Dm
