/- The D-machine, part A: data, how values stand for data, what keeps them. -/
import Derived.WalkKit
import Derived.Maps.AppendAt
import Derived.Deep.Draws
import Derived.Below
import Derived.KernelRfl
set_option linter.unusedVariables false
set_option linter.unusedSimpArgs false
namespace Go.Proofs.Dm
open Go Go.RowKit

/-- Plain data: what lies in one cell. A slice is the list of its elements, each the list of its cells. -/
inductive PD where
  | bool (b : Bool)
  | int (k : IntKind) (n : Int)
  | str (s : ByteArray)
  | nilp
  | sl (z : Nat) (xs : List (List PD))

mutual
/-- A value stands for plain data; cells below the mark h are never written again. -/
def Rep (w : World) (h : Nat → Nat) : PD → Value → Prop
  | .bool b, v => v = .bool b
  | .int k n, v => v = .int k n
  | .str s, v => v = .string s
  | .nilp, v => v = .pointer none
  | .sl z xs, v => (xs = [] ∧ ∃ a c, v = .slice a 0 c ∧ (a = none → c = 0)) ∨ ∃ g off cap, v = .slice (some ⟨g, off, none⟩) xs.length cap ∧ xs.length ≤ cap ∧ off + xs.length * z ≤ h g ∧
      (∀ x ∈ xs, x.length = z) ∧ RepRows w h xs (fun j => w.cell? ⟨g, off + j, none⟩)
def RepRows (w : World) (h : Nat → Nat) : List (List PD) → (Nat → Option Value) → Prop
  | [], _ => True
  | r :: rs, f => RepRow w h r f ∧ RepRows w h rs (fun j => f (r.length + j))
def RepRow (w : World) (h : Nat → Nat) : List PD → (Nat → Option Value) → Prop
  | [], _ => True
  | c :: cs, f => (∃ u, f 0 = some u ∧ Rep w h c u) ∧ RepRow w h cs (fun j => f (j + 1))
end

/-- Below the marks nothing turns. -/
structure Stable (w : World) (h : Nat → Nat) (w' : World) (h' : Nat → Nat) : Prop where
  mono : ∀ b, h b ≤ h' b
  cell : ∀ b i, i < h b → w'.cell? ⟨b, i, none⟩ = w.cell? ⟨b, i, none⟩
  keep : ∀ (b : Nat) (cs : Array Value) (T : TypeId) (f : Nat × Nat), w.heap[b]? = some (.cells cs T f) → ∃ cs' T' f', w'.heap[b]? = some (.cells cs' T' f') ∧ cs'.size = cs.size

theorem Stable.refl (w : World) (h : Nat → Nat) : Stable w h w h := ⟨fun _ => Nat.le_refl _, fun _ _ _ => rfl, fun b cs T f q => ⟨cs, T, f, q, rfl⟩⟩
theorem Stable.trans {w h w1 h1 w2 h2} (a : Stable w h w1 h1) (b : Stable w1 h1 w2 h2) : Stable w h w2 h2 :=
  ⟨fun x => Nat.le_trans (a.mono x) (b.mono x), fun x i hi => (b.cell x i (Nat.lt_of_lt_of_le hi (a.mono x))).trans (a.cell x i hi), fun x cs T f q => by
    obtain ⟨cs', T', f', q1, q2⟩ := a.keep x cs T f q
    obtain ⟨cs2, T2, f2, q3, q4⟩ := b.keep x cs' T' f' q1
    exact ⟨cs2, T2, f2, q3, q4.trans q2⟩⟩

mutual
theorem Rep.mono {w h w' h'} (st : Stable w h w' h') : ∀ (x : PD) (v : Value), Rep w h x v → Rep w' h' x v
  | .bool b, v, r => by simpa only [Rep] using r
  | .int k n, v, r => by simpa only [Rep] using r
  | .str s, v, r => by simpa only [Rep] using r
  | .nilp, v, r => by simpa only [Rep] using r
  | .sl size xs, v, r => by
    simp only [Rep] at r ⊢
    rcases r with r | ⟨g, off, cap, hv, hc, hh, hs, hr⟩
    · exact .inl r
    · exact .inr ⟨g, off, cap, hv, hc, Nat.le_trans hh (st.mono g), hs, RepRows.mono st xs _ _ (xs.length * size) (fun j hj => st.cell g (off + j) (by omega)) (rowsLen xs size hs) hr⟩
theorem rowsLen : ∀ (xs : List (List PD)) (size : Nat), (∀ x ∈ xs, x.length = size) → (xs.map List.length).sum = xs.length * size
  | [], _, _ => by simp
  | x :: xs, size, hs => by
    have h1 := hs x (by simp)
    have h2 := rowsLen xs size (fun y hy => hs y (by simp [hy]))
    simp only [List.map_cons, List.sum_cons, List.length_cons, h1, h2, Nat.add_mul, Nat.one_mul]; omega
theorem RepRows.mono {w h w' h'} (st : Stable w h w' h') : ∀ (xs : List (List PD)) (f f' : Nat → Option Value) (n : Nat), (∀ j, j < n → f' j = f j) →
    (xs.map List.length).sum = n → RepRows w h xs f → RepRows w' h' xs f'
  | [], _, _, _, _, _, _ => by simp only [RepRows]
  | r :: rs, f, f', n, hf, hn, hr => by
    simp only [RepRows] at hr ⊢
    simp only [List.map_cons, List.sum_cons] at hn
    exact ⟨RepRow.mono st r f f' r.length (fun j hj => hf j (by omega)) (Nat.le_refl _) hr.1, RepRows.mono st rs _ _ ((rs.map List.length).sum) (fun j hj => hf _ (by omega)) rfl hr.2⟩
theorem RepRow.mono {w h w' h'} (st : Stable w h w' h') : ∀ (cs : List PD) (f f' : Nat → Option Value) (n : Nat), (∀ j, j < n → f' j = f j) → cs.length ≤ n →
    RepRow w h cs f → RepRow w' h' cs f'
  | [], _, _, _, _, _, _ => by simp only [RepRow]
  | c :: cs, f, f', n, hf, hn, hr => by
    simp only [RepRow] at hr ⊢
    simp only [List.length_cons] at hn
    obtain ⟨⟨u, hu, hc⟩, hrest⟩ := hr
    exact ⟨⟨u, by rw [hf 0 (by omega)]; exact hu, Rep.mono st c u hc⟩, RepRow.mono st cs _ _ (n - 1) (fun j hj => hf (j + 1) (by omega)) (by omega) hrest⟩
end

/-- A slice's elements, read one by one. -/
theorem RepRows.get {w h} : ∀ {xs : List (List PD)} {f : Nat → Option Value} {size : Nat}, (∀ x ∈ xs, x.length = size) → RepRows w h xs f →
    ∀ i x, xs[i]? = some x → RepRow w h x (fun j => f (i * size + j))
  | [], f, size, hs, hr, i, x, hx => by simp at hx
  | r :: rs, f, size, hs, hr, 0, x, hx => by
    simp only [List.getElem?_cons_zero, Option.some.injEq] at hx
    subst hx
    simp only [RepRows] at hr
    simpa using hr.1
  | r :: rs, f, size, hs, hr, i + 1, x, hx => by
    simp only [List.getElem?_cons_succ] at hx
    simp only [RepRows] at hr
    have h1 := hs r (by simp)
    have := RepRows.get (size := size) (fun y hy => hs y (by simp [hy])) hr.2 i x hx
    have e : (fun j => f ((i + 1) * size + j)) = (fun j => f (r.length + (i * size + j))) := by
      funext j; rw [h1, Nat.add_mul, Nat.one_mul]; congr 1; omega
    rw [e]; exact this
theorem RepRow.get {w h} : ∀ {cs : List PD} {f : Nat → Option Value}, RepRow w h cs f → ∀ j c, cs[j]? = some c → ∃ u, f j = some u ∧ Rep w h c u
  | [], f, hr, j, c, hc => by simp at hc
  | c' :: cs, f, hr, 0, c, hc => by
    simp only [List.getElem?_cons_zero, Option.some.injEq] at hc
    subst hc
    simp only [RepRow] at hr
    exact hr.1
  | c' :: cs, f, hr, j + 1, c, hc => by
    simp only [List.getElem?_cons_succ] at hc
    simp only [RepRow] at hr
    exact RepRow.get hr.2 j c hc
theorem RepRow.of_get {w h} : ∀ {cs : List PD} {f : Nat → Option Value}, (∀ j c, cs[j]? = some c → ∃ u, f j = some u ∧ Rep w h c u) → RepRow w h cs f
  | [], f, hr => by simp only [RepRow]
  | c' :: cs, f, hr => by
    simp only [RepRow]
    exact ⟨hr 0 c' (by simp), RepRow.of_get fun j c hc => hr (j + 1) c (by simpa using hc)⟩
theorem RepRows.of_get {w h} : ∀ {xs : List (List PD)} {f : Nat → Option Value} {size : Nat}, (∀ x ∈ xs, x.length = size) →
    (∀ i x, xs[i]? = some x → RepRow w h x (fun j => f (i * size + j))) → RepRows w h xs f
  | [], f, size, hs, hr => by simp only [RepRows]
  | r :: rs, f, size, hs, hr => by
    simp only [RepRows]
    have h1 := hs r (by simp)
    refine ⟨by simpa using hr 0 r (by simp), RepRows.of_get (size := size) (fun y hy => hs y (by simp [hy])) fun i x hx => ?_⟩
    have := hr (i + 1) x (by simpa using hx)
    have e : (fun j => f ((i + 1) * size + j)) = (fun j => f (r.length + (i * size + j))) := by
      funext j; rw [h1, Nat.add_mul, Nat.one_mul]; congr 1; omega
    rwa [e] at this

/-- What a slot or a cell may hold. -/
inductive DV where
  | p (x : PD)
  | nil
  | own (e : TypeId) (z : Nat) (xs : List (List PD))
  | ref (id off : Nat)
  | fr (cs : List PD)
  | fn (f : FuncId) (cap : List DV)
  | un
  | ud
  | agg (cs : List DV)
  | tup (cs : List DV)
  | arr (id off z n : Nat)
  | cp (z : Nat) (xs : List (List PD))
  | mt (e : TypeId) (z : Nat)

/-- A slice of the call's own: its row may be appended to. -/
def OwnRep (w : World) (h : Nat → Nat) (O : Nat → List Nat → Prop) (e : TypeId) (size : Nat) (xs : List (List PD)) (v : Value) : Prop :=
  ∃ vals, 0 < size ∧ w.ownsRow 0 e size v xs.length vals ∧ (∀ x ∈ xs, x.length = size) ∧ RepRows w h xs (fun j => vals[j]?) ∧ (∀ u ∈ vals, u.oneCell' = true) ∧
    ∀ g, v.ownBlock = some g → h g = xs.length * size ∧ O g []

mutual
/-- A value stands for what a slot holds. ρ: the blocks of the boxes. O g p: the row g is owned by what lies at the path p. -/
def RepD (w : World) (h : Nat → Nat) (ρ : List Nat) : DV → (Nat → List Nat → Prop) → Value → Prop
  | .p x, _, v => Rep w h x v
  | .nil, _, v => v = .slice none 0 0
  | .own e z xs, O, v => OwnRep w h O e z xs v
  | .ref id off, _, v => ∃ b, ρ[id]? = some b ∧ v = .pointer (some ⟨b, off, none⟩)
  | .fr cs, _, v => ∃ g off, v = .pointer (some ⟨g, off, none⟩) ∧ off + cs.length ≤ h g ∧ RepRow w h cs (fun j => w.cell? ⟨g, off + j, none⟩)
  | .fn f cap, O, v => ∃ vs, v = .func (.func f) #[] vs ∧ RepDs w h ρ cap O 0 vs.toList
  | .un, _, _ => True
  | .ud, _, v => v = undef
  | .agg cs, O, v => ∃ vs, v = .agg vs ∧ RepDs w h ρ cs O 0 vs.toList
  | .tup cs, O, v => ∃ vs, v = .tuple vs ∧ RepDs w h ρ cs O 0 vs.toList
  | .arr id off z n, _, v => ∃ b, ρ[id]? = some b ∧ ((n = 0 ∧ ∃ a c, v = .slice a 0 c ∧ (a = none → c = 0)) ∨
      ∃ cap cs T f, n ≤ cap ∧ v = .slice (some ⟨b, off, none⟩) n cap ∧ w.heap[b]? = some (.cells cs T f) ∧ off + cap * z ≤ cs.size)
  | .cp z xs, _, v => Rep w h (.sl z xs) v ∧ ∃ a, v = .slice a xs.length xs.length
  | .mt e z, O, v => OwnRep w h O e z [] v
def RepDs (w : World) (h : Nat → Nat) (ρ : List Nat) : List DV → (Nat → List Nat → Prop) → Nat → List Value → Prop
  | [], _, _, vs => vs = []
  | d :: ds, O, k, vs => ∃ v r, vs = v :: r ∧ RepD w h ρ d (fun g p => O g (k :: p)) v ∧ RepDs w h ρ ds O (k + 1) r
end

theorem OwnRep.step {w h w' h'} {O O' : Nat → List Nat → Prop} {e size xs v} (r : OwnRep w h O e size xs v) (st : Stable w h w' h')
    (hO : ∀ g p, O g p → w'.heap[g]? = w.heap[g]? ∧ h' g = h g ∧ O' g p) : OwnRep w' h' O' e size xs v := by
  obtain ⟨vals, hs, ho, hx, hr, h1, hg⟩ := r
  refine ⟨vals, hs, ⟨ho.1, ?_⟩, hx, RepRows.mono st xs _ _ _ (fun _ _ => rfl) rfl hr, h1, fun g he => ?_⟩
  · rcases ho.2 with h0 | ⟨g, cap, cur, hv, hb, hh, rest⟩
    · exact .inl h0
    · refine .inr ⟨g, cap, cur, hv, hb, ?_, rest⟩
      have := hg g (by rw [hv]; rfl)
      rw [(hO g [] this.2).1]; exact hh
  · obtain ⟨a, b⟩ := hg g he
    obtain ⟨c, d, f⟩ := hO g [] b
    exact ⟨by rw [d]; exact a, f⟩

mutual
theorem RepD.step {w h w' h' ρ ρ'} (st : Stable w h w' h') (hρ : ∀ (i b : Nat), ρ[i]? = some b → ρ'[i]? = some b) :
    ∀ (d : DV) (O O' : Nat → List Nat → Prop) (v : Value), (∀ g p, O g p → w'.heap[g]? = w.heap[g]? ∧ h' g = h g ∧ O' g p) → RepD w h ρ d O v → RepD w' h' ρ' d O' v
  | .p x, _, _, v, _, r => by simp only [RepD] at r ⊢; exact Rep.mono st x v r
  | .nil, _, _, v, _, r => by simpa only [RepD] using r
  | .own e z xs, O, O', v, hO, r => by simp only [RepD] at r ⊢; exact r.step st hO
  | .ref id off, _, _, v, _, r => by
    simp only [RepD] at r ⊢
    obtain ⟨b, hb, hv⟩ := r
    exact ⟨b, hρ id b hb, hv⟩
  | .fr cs, _, _, v, _, r => by
    simp only [RepD] at r ⊢
    obtain ⟨g, off, hv, hh, hr⟩ := r
    exact ⟨g, off, hv, Nat.le_trans hh (st.mono g), RepRow.mono st cs _ _ cs.length (fun j hj => st.cell g (off + j) (by omega)) (Nat.le_refl _) hr⟩
  | .fn f cap, O, O', v, hO, r => by
    simp only [RepD] at r ⊢
    obtain ⟨vs, hv, hr⟩ := r
    exact ⟨vs, hv, RepDs.step st hρ cap O O' 0 _ hO hr⟩
  | .un, _, _, _, _, _ => by simp only [RepD]
  | .ud, _, _, _, _, r => by simpa only [RepD] using r
  | .agg cs, O, O', v, hO, r => by
    simp only [RepD] at r ⊢
    obtain ⟨vs, hv, hr⟩ := r
    exact ⟨vs, hv, RepDs.step st hρ cs O O' 0 _ hO hr⟩
  | .tup cs, O, O', v, hO, r => by
    simp only [RepD] at r ⊢
    obtain ⟨vs, hv, hr⟩ := r
    exact ⟨vs, hv, RepDs.step st hρ cs O O' 0 _ hO hr⟩
  | .arr id off z n, _, _, v, _, r => by
    simp only [RepD] at r ⊢
    obtain ⟨b, hb, hv | ⟨cap, cs, T, f, q1, q2, q3, q4⟩⟩ := r
    · exact ⟨b, hρ id b hb, .inl hv⟩
    · obtain ⟨cs', T', f', k1, k2⟩ := st.keep b cs T f q3
      exact ⟨b, hρ id b hb, .inr ⟨cap, cs', T', f', q1, q2, k1, by omega⟩⟩
  | .cp z xs, _, _, v, _, r => by simp only [RepD] at r ⊢; exact ⟨Rep.mono st _ v r.1, r.2⟩
  | .mt e z, O, O', v, hO, r => by simp only [RepD] at r ⊢; exact r.step st hO
theorem RepDs.step {w h w' h' ρ ρ'} (st : Stable w h w' h') (hρ : ∀ (i b : Nat), ρ[i]? = some b → ρ'[i]? = some b) :
    ∀ (ds : List DV) (O O' : Nat → List Nat → Prop) (k : Nat) (vs : List Value), (∀ g p, O g p → w'.heap[g]? = w.heap[g]? ∧ h' g = h g ∧ O' g p) →
      RepDs w h ρ ds O k vs → RepDs w' h' ρ' ds O' k vs
  | [], _, _, _, _, _, r => by simpa only [RepDs] using r
  | d :: ds, O, O', k, vs, hO, r => by
    simp only [RepDs] at r ⊢
    obtain ⟨v, rest, hv, h1, h2⟩ := r
    exact ⟨v, rest, hv, RepD.step st hρ d _ _ v (fun g p => hO g (k :: p)) h1, RepDs.step st hρ ds O O' (k + 1) rest hO h2⟩
end

/-- Where nothing turns but the owners' names. -/
theorem RepD.rename {w h ρ d v} {O O' : Nat → List Nat → Prop} (r : RepD w h ρ d O v) (hO : ∀ g p, O g p → O' g p) : RepD w h ρ d O' v :=
  RepD.step (Stable.refl w h) (fun _ _ h => h) d O O' v (fun g p o => ⟨rfl, rfl, hO g p o⟩) r
theorem RepDs.rename {w h ρ ds vs k} {O O' : Nat → List Nat → Prop} (r : RepDs w h ρ ds O k vs) (hO : ∀ g p, O g p → O' g p) : RepDs w h ρ ds O' k vs :=
  RepDs.step (Stable.refl w h) (fun _ _ h => h) ds O O' k vs (fun g p o => ⟨rfl, rfl, hO g p o⟩) r

theorem RepDs.length {w h ρ} : ∀ {ds : List DV} {O k vs}, RepDs w h ρ ds O k vs → vs.length = ds.length
  | [], O, k, vs, r => by simp only [RepDs] at r; simp [r]
  | d :: ds, O, k, vs, r => by
    simp only [RepDs] at r
    obtain ⟨v, rest, rfl, _, h2⟩ := r
    simp [RepDs.length h2]
theorem RepDs.get {w h ρ} : ∀ {ds : List DV} {O k vs}, RepDs w h ρ ds O k vs → ∀ i d, ds[i]? = some d → ∃ v, vs[i]? = some v ∧ RepD w h ρ d (fun g p => O g ((k + i) :: p)) v
  | [], O, k, vs, r, i, d, hd => by simp at hd
  | d' :: ds, O, k, vs, r, 0, d, hd => by
    simp only [RepDs] at r
    obtain ⟨v, rest, rfl, h1, h2⟩ := r
    simp only [List.getElem?_cons_zero, Option.some.injEq] at hd
    subst hd
    exact ⟨v, by simp, by simpa using h1⟩
  | d' :: ds, O, k, vs, r, i + 1, d, hd => by
    simp only [RepDs] at r
    obtain ⟨v, rest, rfl, h1, h2⟩ := r
    simp only [List.getElem?_cons_succ] at hd
    obtain ⟨v', a, b⟩ := RepDs.get h2 i d hd
    refine ⟨v', by simpa using a, ?_⟩
    have e : k + 1 + i = k + (i + 1) := by omega
    rw [e] at b; exact b
theorem RepDs.of_get {w h ρ} : ∀ {ds : List DV} {O : Nat → List Nat → Prop} {k} {vs : List Value}, vs.length = ds.length →
    (∀ i d v, ds[i]? = some d → vs[i]? = some v → RepD w h ρ d (fun g p => O g ((k + i) :: p)) v) → RepDs w h ρ ds O k vs
  | [], O, k, vs, hl, r => by simp only [RepDs]; exact List.eq_nil_of_length_eq_zero (by simpa using hl)
  | d :: ds, O, k, [], hl, r => by simp at hl
  | d :: ds, O, k, v :: vs, hl, r => by
    simp only [RepDs]
    refine ⟨v, vs, rfl, by simpa using r 0 d v (by simp) (by simp), RepDs.of_get (by simpa using hl) fun i d' v' hd hv => ?_⟩
    have := r (i + 1) d' v' (by simpa using hd) (by simpa using hv)
    have e : k + (i + 1) = k + 1 + i := by omega
    rw [e] at this; exact this

/-! ### Freezing: whoever owned shares. -/
mutual
def fz : DV → DV
  | .own _ z xs => .p (.sl z xs)
  | .mt _ z => .p (.sl z [])
  | .agg cs => .agg (fzs cs)
  | .tup cs => .tup (fzs cs)
  | .fn f cap => .fn f (fzs cap)
  | d => d
def fzs : List DV → List DV
  | [] => []
  | d :: ds => fz d :: fzs ds
end
theorem OwnRep.freeze {w h O e size xs v} (r : OwnRep w h O e size xs v) : Rep w h (.sl size xs) v := by
  obtain ⟨vals, hs, ho, hx, hr, h1, hg⟩ := r
  simp only [Rep]
  rcases ho.2 with ⟨hv, h0⟩ | ⟨g, cap, cur, hv, hb, hh, hnc, hcm, hcs, htake⟩
  · exact .inl ⟨List.eq_nil_of_length_eq_zero h0, none, 0, hv, fun _ => rfl⟩
  · obtain ⟨hhg, _⟩ := hg g (by rw [hv]; rfl)
    refine .inr ⟨g, 0, cap, hv, hnc, by omega, hx, RepRows.mono (Stable.refl w h) xs _ _ (xs.length * size) (fun j hj => ?_) (rowsLen xs size hx) hr⟩
    have : vals[j]? = cur[j]? := by rw [← htake, List.getElem?_take, if_pos hj, Array.getElem?_toList]
    simp only [Nat.zero_add, World.cell?, hh, this]; rfl
mutual
theorem RepD.fz {w h ρ} : ∀ (d : DV) (O O' : Nat → List Nat → Prop) (v : Value), RepD w h ρ d O v → RepD w h ρ (fz d) O' v
  | .own e z xs, O, O', v, r => by simp only [RepD, Dm.fz] at r ⊢; exact r.freeze
  | .nil, O, O', v, r => by simpa only [RepD, Dm.fz] using r
  | .agg cs, O, O', v, r => by
    simp only [RepD, Dm.fz] at r ⊢
    obtain ⟨vs, hv, hr⟩ := r
    exact ⟨vs, hv, RepDs.fzs cs O O' 0 _ hr⟩
  | .tup cs, O, O', v, r => by
    simp only [RepD, Dm.fz] at r ⊢
    obtain ⟨vs, hv, hr⟩ := r
    exact ⟨vs, hv, RepDs.fzs cs O O' 0 _ hr⟩
  | .fn f cap, O, O', v, r => by
    simp only [RepD, Dm.fz] at r ⊢
    obtain ⟨vs, hv, hr⟩ := r
    exact ⟨vs, hv, RepDs.fzs cap O O' 0 _ hr⟩
  | .p x, O, O', v, r => by simpa only [RepD, Dm.fz] using r
  | .ref id off, O, O', v, r => by simpa only [RepD, Dm.fz] using r
  | .fr cs, O, O', v, r => by simpa only [RepD, Dm.fz] using r
  | .un, O, O', v, r => by simp only [RepD, Dm.fz]
  | .ud, O, O', v, r => by simpa only [RepD, Dm.fz] using r
  | .arr _ _ _ _, O, O', v, r => by simpa only [RepD, Dm.fz] using r
  | .cp _ _, O, O', v, r => by simpa only [RepD, Dm.fz] using r
  | .mt e z, O, O', v, r => by simp only [RepD, Dm.fz] at r ⊢; exact r.freeze
theorem RepDs.fzs {w h ρ} : ∀ (ds : List DV) (O O' : Nat → List Nat → Prop) (k : Nat) (vs : List Value), RepDs w h ρ ds O k vs → RepDs w h ρ (fzs ds) O' k vs
  | [], _, _, _, _, r => by simpa only [RepDs, Dm.fzs] using r
  | d :: ds, O, O', k, vs, r => by
    simp only [RepDs, Dm.fzs] at r ⊢
    obtain ⟨v, rest, hv, h1, h2⟩ := r
    exact ⟨v, rest, hv, RepD.fz d _ _ v h1, RepDs.fzs ds _ _ _ rest h2⟩
end

/-! ### Weakening: the second says less -/
mutual
inductive Wk : DV → DV → Prop
  | refl (d : DV) : Wk d d
  | un (d : DV) : Wk d .un
  | nilown (e z : Nat) (hz : 0 < z) : Wk .nil (.own e z [])
  | nilp (z : Nat) : Wk .nil (.p (.sl z []))
  | fr (e z : Nat) (xs : List (List PD)) : Wk (.own e z xs) (.p (.sl z xs))
  | ownmt (e z : Nat) : Wk (.own e z []) (.mt e z)
  | mtown (e z : Nat) : Wk (.mt e z) (.own e z [])
  | mtfr (e z : Nat) : Wk (.mt e z) (.p (.sl z []))
  | cpfr (z : Nat) (xs : List (List PD)) : Wk (.cp z xs) (.p (.sl z xs))
  | fn (f : FuncId) {cs ds : List DV} (k : Wks cs ds) : Wk (.fn f cs) (.fn f ds)
  | agg {cs ds : List DV} (k : Wks cs ds) : Wk (.agg cs) (.agg ds)
  | tup {cs ds : List DV} (k : Wks cs ds) : Wk (.tup cs) (.tup ds)
inductive Wks : List DV → List DV → Prop
  | nil : Wks [] []
  | cons {c d : DV} {cs ds : List DV} (k : Wk c d) (ks : Wks cs ds) : Wks (c :: cs) (d :: ds)
end
mutual
theorem RepD.wk {w h ρ} : ∀ {d d' : DV} {O : Nat → List Nat → Prop} {v : Value}, Wk d d' → RepD w h ρ d O v → RepD w h ρ d' O v
  | _, _, _, _, .refl _, r => r
  | _, _, _, _, .un _, r => by simp only [RepD]
  | _, _, _, v, .nilown e z hz, r => by
    simp only [RepD] at r ⊢
    subst r
    exact ⟨[], hz, ⟨by simp, .inl ⟨rfl, rfl⟩⟩, by simp, by simp only [RepRows], by simp, by simp [Value.ownBlock]⟩
  | _, _, _, v, .nilp z, r => by
    simp only [RepD] at r
    show Rep w h (.sl z []) v
    exact .inl ⟨rfl, none, 0, r, fun _ => rfl⟩
  | _, _, _, v, .fr e z xs, r => by
    simp only [RepD] at r
    exact r.freeze
  | _, _, _, v, .ownmt e z, r => by simpa only [RepD] using r
  | _, _, _, v, .mtown e z, r => by simpa only [RepD] using r
  | _, _, _, v, .mtfr e z, r => by simp only [RepD] at r ⊢; exact r.freeze
  | _, _, _, v, .cpfr z xs, r => by simp only [RepD] at r ⊢; exact r.1
  | _, _, _, v, .fn f k, r => by
    simp only [RepD] at r ⊢
    obtain ⟨vs, hv, hr⟩ := r
    exact ⟨vs, hv, RepDs.wk k hr⟩
  | _, _, _, v, .agg k, r => by
    simp only [RepD] at r ⊢
    obtain ⟨vs, hv, hr⟩ := r
    exact ⟨vs, hv, RepDs.wk k hr⟩
  | _, _, _, v, .tup k, r => by
    simp only [RepD] at r ⊢
    obtain ⟨vs, hv, hr⟩ := r
    exact ⟨vs, hv, RepDs.wk k hr⟩
theorem RepDs.wk {w h ρ} : ∀ {ds ds' : List DV} {O : Nat → List Nat → Prop} {k : Nat} {vs : List Value}, Wks ds ds' → RepDs w h ρ ds O k vs → RepDs w h ρ ds' O k vs
  | _, _, _, _, _, .nil, r => r
  | _, _, _, _, _, .cons q qs, r => by
    simp only [RepDs] at r ⊢
    obtain ⟨v, rest, hv, h1, h2⟩ := r
    exact ⟨v, rest, hv, RepD.wk q h1, RepDs.wk qs h2⟩
end
end Go.Proofs.Dm
