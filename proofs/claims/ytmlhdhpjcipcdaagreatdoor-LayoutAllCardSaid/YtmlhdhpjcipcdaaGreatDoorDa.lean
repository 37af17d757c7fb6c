/- Part of the proof: contracts of the functions, walked by the D-machine. No condition. -/
import Derived.WalkKit
import Derived.Maps.AppendAt
import Derived.Deep.Draws
import Derived.Below
import Derived.KernelRfl
import Derived.Laws.StructEq
set_option linter.unusedVariables false
set_option linter.unusedSimpArgs false
namespace Go.Proofs.Dm
open Go Go.RowKit
inductive PD where
  | bool (b : Bool)
  | int (k : IntKind) (n : Int)
  | str (s : ByteArray)
  | nilp
  | sl (z : Nat) (xs : List (List PD))
mutual
def Rep (w : World) (h : Nat → Nat) : PD → Value → Prop
  | .bool b, v => v = .bool b
  | .int k n, v => v = .int k n
  | .str s, v => v = .string s
  | .nilp, v => v = .pointer none
  | .sl z xs, v => (xs = [] ∧ ∃ a c, v = .slice a 0 c ∧ (a = none → c = 0)) ∨ ∃ g off cap, v = .slice (some ⟨g, off, none⟩) xs.length cap ∧ xs.length ≤ cap ∧ off + xs.length * z ≤ h g ∧
      (∀ x ∈ xs, x.length = z) ∧ RepRows w h xs (fun j => w.cell? ⟨g, off + j, none⟩)
def RepRows (w : World) (h : Nat → Nat) : List (List PD) → (Nat → Option Value) → Prop
  | [], _ => True
  | r :: rs, f => RepRow w h r f ∧ RepRows w h rs (fun j => f (r.length + j))
def RepRow (w : World) (h : Nat → Nat) : List PD → (Nat → Option Value) → Prop
  | [], _ => True
  | c :: cs, f => (∃ u, f 0 = some u ∧ Rep w h c u) ∧ RepRow w h cs (fun j => f (j + 1))
end
structure Stable (w : World) (h : Nat → Nat) (w' : World) (h' : Nat → Nat) : Prop where
  mono : ∀ b, h b ≤ h' b
  cell : ∀ b i, i < h b → w'.cell? ⟨b, i, none⟩ = w.cell? ⟨b, i, none⟩
  keep : ∀ (b : Nat) (cs : Array Value) (T : TypeId) (f : Nat × Nat), w.heap[b]? = some (.cells cs T f) → ∃ cs' f', w'.heap[b]? = some (.cells cs' T f') ∧ cs'.size = cs.size
theorem Stable.refl (w : World) (h : Nat → Nat) : Stable w h w h := ⟨fun _ => Nat.le_refl _, fun _ _ _ => rfl, fun b cs T f q => ⟨cs, f, q, rfl⟩⟩
theorem Stable.trans {w h w1 h1 w2 h2} (a : Stable w h w1 h1) (b : Stable w1 h1 w2 h2) : Stable w h w2 h2 :=
  ⟨fun x => Nat.le_trans (a.mono x) (b.mono x), fun x i hi => (b.cell x i (Nat.lt_of_lt_of_le hi (a.mono x))).trans (a.cell x i hi), fun x cs T f q => by
    obtain ⟨cs', f', q1, q2⟩ := a.keep x cs T f q
    obtain ⟨cs2, f2, q3, q4⟩ := b.keep x cs' T f' q1
    exact ⟨cs2, f2, q3, q4.trans q2⟩⟩
mutual
theorem Rep.mono {w h w' h'} (st : Stable w h w' h') : ∀ (x : PD) (v : Value), Rep w h x v → Rep w' h' x v
  | .bool b, v, r => by simpa only [Rep] using r
  | .int k n, v, r => by simpa only [Rep] using r
  | .str s, v, r => by simpa only [Rep] using r
  | .nilp, v, r => by simpa only [Rep] using r
  | .sl size xs, v, r => by
    simp only [Rep] at r ⊢
    rcases r with r | ⟨g, off, cap, hv, hc, hh, hs, hr⟩
    · exact .inl r
    · exact .inr ⟨g, off, cap, hv, hc, Nat.le_trans hh (st.mono g), hs, RepRows.mono st xs _ _ (xs.length * size) (fun j hj => st.cell g (off + j) (by omega)) (rowsLen xs size hs) hr⟩
theorem rowsLen : ∀ (xs : List (List PD)) (size : Nat), (∀ x ∈ xs, x.length = size) → (xs.map List.length).sum = xs.length * size
  | [], _, _ => by simp
  | x :: xs, size, hs => by
    have h1 := hs x (by simp)
    have h2 := rowsLen xs size (fun y hy => hs y (by simp [hy]))
    simp only [List.map_cons, List.sum_cons, List.length_cons, h1, h2, Nat.add_mul, Nat.one_mul]; omega
theorem RepRows.mono {w h w' h'} (st : Stable w h w' h') : ∀ (xs : List (List PD)) (f f' : Nat → Option Value) (n : Nat), (∀ j, j < n → f' j = f j) →
    (xs.map List.length).sum = n → RepRows w h xs f → RepRows w' h' xs f'
  | [], _, _, _, _, _, _ => by simp only [RepRows]
  | r :: rs, f, f', n, hf, hn, hr => by
    simp only [RepRows] at hr ⊢
    simp only [List.map_cons, List.sum_cons] at hn
    exact ⟨RepRow.mono st r f f' r.length (fun j hj => hf j (by omega)) (Nat.le_refl _) hr.1, RepRows.mono st rs _ _ ((rs.map List.length).sum) (fun j hj => hf _ (by omega)) rfl hr.2⟩
theorem RepRow.mono {w h w' h'} (st : Stable w h w' h') : ∀ (cs : List PD) (f f' : Nat → Option Value) (n : Nat), (∀ j, j < n → f' j = f j) → cs.length ≤ n →
    RepRow w h cs f → RepRow w' h' cs f'
  | [], _, _, _, _, _, _ => by simp only [RepRow]
  | c :: cs, f, f', n, hf, hn, hr => by
    simp only [RepRow] at hr ⊢
    simp only [List.length_cons] at hn
    obtain ⟨⟨u, hu, hc⟩, hrest⟩ := hr
    exact ⟨⟨u, by rw [hf 0 (by omega)]; exact hu, Rep.mono st c u hc⟩, RepRow.mono st cs _ _ (n - 1) (fun j hj => hf (j + 1) (by omega)) (by omega) hrest⟩
end
theorem RepRows.get {w h} : ∀ {xs : List (List PD)} {f : Nat → Option Value} {size : Nat}, (∀ x ∈ xs, x.length = size) → RepRows w h xs f →
    ∀ i x, xs[i]? = some x → RepRow w h x (fun j => f (i * size + j))
  | [], f, size, hs, hr, i, x, hx => by simp at hx
  | r :: rs, f, size, hs, hr, 0, x, hx => by
    simp only [List.getElem?_cons_zero, Option.some.injEq] at hx
    subst hx
    simp only [RepRows] at hr
    simpa using hr.1
  | r :: rs, f, size, hs, hr, i + 1, x, hx => by
    simp only [List.getElem?_cons_succ] at hx
    simp only [RepRows] at hr
    have h1 := hs r (by simp)
    have := RepRows.get (size := size) (fun y hy => hs y (by simp [hy])) hr.2 i x hx
    have e : (fun j => f ((i + 1) * size + j)) = (fun j => f (r.length + (i * size + j))) := by
      funext j; rw [h1, Nat.add_mul, Nat.one_mul]; congr 1; omega
    rw [e]; exact this
theorem RepRow.get {w h} : ∀ {cs : List PD} {f : Nat → Option Value}, RepRow w h cs f → ∀ j c, cs[j]? = some c → ∃ u, f j = some u ∧ Rep w h c u
  | [], f, hr, j, c, hc => by simp at hc
  | c' :: cs, f, hr, 0, c, hc => by
    simp only [List.getElem?_cons_zero, Option.some.injEq] at hc
    subst hc
    simp only [RepRow] at hr
    exact hr.1
  | c' :: cs, f, hr, j + 1, c, hc => by
    simp only [List.getElem?_cons_succ] at hc
    simp only [RepRow] at hr
    exact RepRow.get hr.2 j c hc
theorem RepRow.of_get {w h} : ∀ {cs : List PD} {f : Nat → Option Value}, (∀ j c, cs[j]? = some c → ∃ u, f j = some u ∧ Rep w h c u) → RepRow w h cs f
  | [], f, hr => by simp only [RepRow]
  | c' :: cs, f, hr => by
    simp only [RepRow]
    exact ⟨hr 0 c' (by simp), RepRow.of_get fun j c hc => hr (j + 1) c (by simpa using hc)⟩
theorem RepRows.of_get {w h} : ∀ {xs : List (List PD)} {f : Nat → Option Value} {size : Nat}, (∀ x ∈ xs, x.length = size) →
    (∀ i x, xs[i]? = some x → RepRow w h x (fun j => f (i * size + j))) → RepRows w h xs f
  | [], f, size, hs, hr => by simp only [RepRows]
  | r :: rs, f, size, hs, hr => by
    simp only [RepRows]
    have h1 := hs r (by simp)
    refine ⟨by simpa using hr 0 r (by simp), RepRows.of_get (size := size) (fun y hy => hs y (by simp [hy])) fun i x hx => ?_⟩
    have := hr (i + 1) x (by simpa using hx)
    have e : (fun j => f ((i + 1) * size + j)) = (fun j => f (r.length + (i * size + j))) := by
      funext j; rw [h1, Nat.add_mul, Nat.one_mul]; congr 1; omega
    rwa [e] at this
inductive DV where
  | p (x : PD)
  | nil
  | own (e : TypeId) (z : Nat) (xs : List (List PD))
  | ref (id off : Nat)
  | fr (cs : List PD)
  | fn (f : FuncId) (cap : List DV)
  | un
  | ud
  | agg (cs : List DV)
  | tup (cs : List DV)
  | arr (id off z n : Nat)
  | cp (z : Nat) (xs : List (List PD))
  | mt (e : TypeId) (z : Nat)
  | bn (id : Nat) (T : TypeId) (n : Nat)
def OwnRep (w : World) (h : Nat → Nat) (O : Nat → List Nat → Prop) (e : TypeId) (size : Nat) (xs : List (List PD)) (v : Value) : Prop :=
  ∃ vals, 0 < size ∧ w.ownsRow 0 e size v xs.length vals ∧ (∀ x ∈ xs, x.length = size) ∧ RepRows w h xs (fun j => vals[j]?) ∧ (∀ u ∈ vals, u.oneCell' = true) ∧
    ∀ g, v.ownBlock = some g → h g = xs.length * size ∧ O g []
mutual
def RepD (w : World) (h : Nat → Nat) (ρ : List Nat) : DV → (Nat → List Nat → Prop) → Value → Prop
  | .p x, _, v => Rep w h x v
  | .nil, _, v => v = .slice none 0 0
  | .own e z xs, O, v => OwnRep w h O e z xs v
  | .ref id off, _, v => ∃ b, ρ[id]? = some b ∧ v = .pointer (some ⟨b, off, none⟩)
  | .fr cs, _, v => ∃ g off, v = .pointer (some ⟨g, off, none⟩) ∧ off + cs.length ≤ h g ∧ RepRow w h cs (fun j => w.cell? ⟨g, off + j, none⟩)
  | .fn f cap, O, v => ∃ vs, v = .func (.func f) #[] vs ∧ RepDs w h ρ cap O 0 vs.toList
  | .un, _, _ => True
  | .ud, _, v => v = undef
  | .agg cs, O, v => ∃ vs, v = .agg vs ∧ RepDs w h ρ cs O 0 vs.toList
  | .tup cs, O, v => ∃ vs, v = .tuple vs ∧ RepDs w h ρ cs O 0 vs.toList
  | .arr id off z n, _, v => ∃ b, ρ[id]? = some b ∧ ((n = 0 ∧ ∃ a c, v = .slice a 0 c ∧ (a = none → c = 0)) ∨
      ∃ cap cs T f, n ≤ cap ∧ v = .slice (some ⟨b, off, none⟩) n cap ∧ w.heap[b]? = some (.cells cs T f) ∧ off + cap * z ≤ cs.size)
  | .cp z xs, _, v => Rep w h (.sl z xs) v ∧ ∃ a, v = .slice a xs.length xs.length
  | .mt e z, O, v => OwnRep w h O e z [] v
  | .bn id T n, _, v => v = .pointer none ∧ ∃ b cs f, ρ[id]? = some b ∧ w.heap[b]? = some (.cells cs T f) ∧ cs.size = n
def RepDs (w : World) (h : Nat → Nat) (ρ : List Nat) : List DV → (Nat → List Nat → Prop) → Nat → List Value → Prop
  | [], _, _, vs => vs = []
  | d :: ds, O, k, vs => ∃ v r, vs = v :: r ∧ RepD w h ρ d (fun g p => O g (k :: p)) v ∧ RepDs w h ρ ds O (k + 1) r
end
theorem OwnRep.step {w h w' h'} {O O' : Nat → List Nat → Prop} {e size xs v} (r : OwnRep w h O e size xs v) (st : Stable w h w' h')
    (hO : ∀ g p, O g p → w'.heap[g]? = w.heap[g]? ∧ h' g = h g ∧ O' g p) : OwnRep w' h' O' e size xs v := by
  obtain ⟨vals, hs, ho, hx, hr, h1, hg⟩ := r
  refine ⟨vals, hs, ⟨ho.1, ?_⟩, hx, RepRows.mono st xs _ _ _ (fun _ _ => rfl) rfl hr, h1, fun g he => ?_⟩
  · rcases ho.2 with h0 | ⟨g, cap, cur, hv, hb, hh, rest⟩
    · exact .inl h0
    · refine .inr ⟨g, cap, cur, hv, hb, ?_, rest⟩
      have := hg g (by rw [hv]; rfl)
      rw [(hO g [] this.2).1]; exact hh
  · obtain ⟨a, b⟩ := hg g he
    obtain ⟨c, d, f⟩ := hO g [] b
    exact ⟨by rw [d]; exact a, f⟩
mutual
theorem RepD.step {w h w' h' ρ ρ'} (st : Stable w h w' h') (hρ : ∀ (i b : Nat), ρ[i]? = some b → ρ'[i]? = some b) :
    ∀ (d : DV) (O O' : Nat → List Nat → Prop) (v : Value), (∀ g p, O g p → w'.heap[g]? = w.heap[g]? ∧ h' g = h g ∧ O' g p) → RepD w h ρ d O v → RepD w' h' ρ' d O' v
  | .p x, _, _, v, _, r => by simp only [RepD] at r ⊢; exact Rep.mono st x v r
  | .nil, _, _, v, _, r => by simpa only [RepD] using r
  | .own e z xs, O, O', v, hO, r => by simp only [RepD] at r ⊢; exact r.step st hO
  | .ref id off, _, _, v, _, r => by
    simp only [RepD] at r ⊢
    obtain ⟨b, hb, hv⟩ := r
    exact ⟨b, hρ id b hb, hv⟩
  | .fr cs, _, _, v, _, r => by
    simp only [RepD] at r ⊢
    obtain ⟨g, off, hv, hh, hr⟩ := r
    exact ⟨g, off, hv, Nat.le_trans hh (st.mono g), RepRow.mono st cs _ _ cs.length (fun j hj => st.cell g (off + j) (by omega)) (Nat.le_refl _) hr⟩
  | .fn f cap, O, O', v, hO, r => by
    simp only [RepD] at r ⊢
    obtain ⟨vs, hv, hr⟩ := r
    exact ⟨vs, hv, RepDs.step st hρ cap O O' 0 _ hO hr⟩
  | .un, _, _, _, _, _ => by simp only [RepD]
  | .ud, _, _, _, _, r => by simpa only [RepD] using r
  | .agg cs, O, O', v, hO, r => by
    simp only [RepD] at r ⊢
    obtain ⟨vs, hv, hr⟩ := r
    exact ⟨vs, hv, RepDs.step st hρ cs O O' 0 _ hO hr⟩
  | .tup cs, O, O', v, hO, r => by
    simp only [RepD] at r ⊢
    obtain ⟨vs, hv, hr⟩ := r
    exact ⟨vs, hv, RepDs.step st hρ cs O O' 0 _ hO hr⟩
  | .arr id off z n, _, _, v, _, r => by
    simp only [RepD] at r ⊢
    obtain ⟨b, hb, hv | ⟨cap, cs, T, f, q1, q2, q3, q4⟩⟩ := r
    · exact ⟨b, hρ id b hb, .inl hv⟩
    · obtain ⟨cs', f', k1, k2⟩ := st.keep b cs T f q3
      exact ⟨b, hρ id b hb, .inr ⟨cap, cs', T, f', q1, q2, k1, by omega⟩⟩
  | .cp z xs, _, _, v, _, r => by simp only [RepD] at r ⊢; exact ⟨Rep.mono st _ v r.1, r.2⟩
  | .mt e z, O, O', v, hO, r => by simp only [RepD] at r ⊢; exact r.step st hO
  | .bn id T n, _, _, v, _, r => by
    simp only [RepD] at r ⊢
    obtain ⟨hv, b, cs, f, hb, hc, hn⟩ := r
    obtain ⟨cs', f', k1, k2⟩ := st.keep b cs T f hc
    exact ⟨hv, b, cs', f', hρ id b hb, k1, k2.trans hn⟩
theorem RepDs.step {w h w' h' ρ ρ'} (st : Stable w h w' h') (hρ : ∀ (i b : Nat), ρ[i]? = some b → ρ'[i]? = some b) :
    ∀ (ds : List DV) (O O' : Nat → List Nat → Prop) (k : Nat) (vs : List Value), (∀ g p, O g p → w'.heap[g]? = w.heap[g]? ∧ h' g = h g ∧ O' g p) →
      RepDs w h ρ ds O k vs → RepDs w' h' ρ' ds O' k vs
  | [], _, _, _, _, _, r => by simpa only [RepDs] using r
  | d :: ds, O, O', k, vs, hO, r => by
    simp only [RepDs] at r ⊢
    obtain ⟨v, rest, hv, h1, h2⟩ := r
    exact ⟨v, rest, hv, RepD.step st hρ d _ _ v (fun g p => hO g (k :: p)) h1, RepDs.step st hρ ds O O' (k + 1) rest hO h2⟩
end
theorem RepD.rename {w h ρ d v} {O O' : Nat → List Nat → Prop} (r : RepD w h ρ d O v) (hO : ∀ g p, O g p → O' g p) : RepD w h ρ d O' v :=
  RepD.step (Stable.refl w h) (fun _ _ h => h) d O O' v (fun g p o => ⟨rfl, rfl, hO g p o⟩) r
theorem RepDs.rename {w h ρ ds vs k} {O O' : Nat → List Nat → Prop} (r : RepDs w h ρ ds O k vs) (hO : ∀ g p, O g p → O' g p) : RepDs w h ρ ds O' k vs :=
  RepDs.step (Stable.refl w h) (fun _ _ h => h) ds O O' k vs (fun g p o => ⟨rfl, rfl, hO g p o⟩) r
theorem RepDs.length {w h ρ} : ∀ {ds : List DV} {O k vs}, RepDs w h ρ ds O k vs → vs.length = ds.length
  | [], O, k, vs, r => by simp only [RepDs] at r; simp [r]
  | d :: ds, O, k, vs, r => by
    simp only [RepDs] at r
    obtain ⟨v, rest, rfl, _, h2⟩ := r
    simp [RepDs.length h2]
theorem RepDs.get {w h ρ} : ∀ {ds : List DV} {O k vs}, RepDs w h ρ ds O k vs → ∀ i d, ds[i]? = some d → ∃ v, vs[i]? = some v ∧ RepD w h ρ d (fun g p => O g ((k + i) :: p)) v
  | [], O, k, vs, r, i, d, hd => by simp at hd
  | d' :: ds, O, k, vs, r, 0, d, hd => by
    simp only [RepDs] at r
    obtain ⟨v, rest, rfl, h1, h2⟩ := r
    simp only [List.getElem?_cons_zero, Option.some.injEq] at hd
    subst hd
    exact ⟨v, by simp, by simpa using h1⟩
  | d' :: ds, O, k, vs, r, i + 1, d, hd => by
    simp only [RepDs] at r
    obtain ⟨v, rest, rfl, h1, h2⟩ := r
    simp only [List.getElem?_cons_succ] at hd
    obtain ⟨v', a, b⟩ := RepDs.get h2 i d hd
    refine ⟨v', by simpa using a, ?_⟩
    have e : k + 1 + i = k + (i + 1) := by omega
    rw [e] at b; exact b
theorem RepDs.of_get {w h ρ} : ∀ {ds : List DV} {O : Nat → List Nat → Prop} {k} {vs : List Value}, vs.length = ds.length →
    (∀ i d v, ds[i]? = some d → vs[i]? = some v → RepD w h ρ d (fun g p => O g ((k + i) :: p)) v) → RepDs w h ρ ds O k vs
  | [], O, k, vs, hl, r => by simp only [RepDs]; exact List.eq_nil_of_length_eq_zero (by simpa using hl)
  | d :: ds, O, k, [], hl, r => by simp at hl
  | d :: ds, O, k, v :: vs, hl, r => by
    simp only [RepDs]
    refine ⟨v, vs, rfl, by simpa using r 0 d v (by simp) (by simp), RepDs.of_get (by simpa using hl) fun i d' v' hd hv => ?_⟩
    have := r (i + 1) d' v' (by simpa using hd) (by simpa using hv)
    have e : k + (i + 1) = k + 1 + i := by omega
    rw [e] at this; exact this
mutual
def fz : DV → DV
  | .own _ z xs => .p (.sl z xs)
  | .mt _ z => .p (.sl z [])
  | .agg cs => .agg (fzs cs)
  | .tup cs => .tup (fzs cs)
  | .fn f cap => .fn f (fzs cap)
  | d => d
def fzs : List DV → List DV
  | [] => []
  | d :: ds => fz d :: fzs ds
end
theorem OwnRep.freeze {w h O e size xs v} (r : OwnRep w h O e size xs v) : Rep w h (.sl size xs) v := by
  obtain ⟨vals, hs, ho, hx, hr, h1, hg⟩ := r
  simp only [Rep]
  rcases ho.2 with ⟨hv, h0⟩ | ⟨g, cap, cur, hv, hb, hh, hnc, hcm, hcs, htake⟩
  · exact .inl ⟨List.eq_nil_of_length_eq_zero h0, none, 0, hv, fun _ => rfl⟩
  · obtain ⟨hhg, _⟩ := hg g (by rw [hv]; rfl)
    refine .inr ⟨g, 0, cap, hv, hnc, by omega, hx, RepRows.mono (Stable.refl w h) xs _ _ (xs.length * size) (fun j hj => ?_) (rowsLen xs size hx) hr⟩
    have : vals[j]? = cur[j]? := by rw [← htake, List.getElem?_take, if_pos hj, Array.getElem?_toList]
    simp only [Nat.zero_add, World.cell?, hh, this]; rfl
mutual
theorem RepD.fz {w h ρ} : ∀ (d : DV) (O O' : Nat → List Nat → Prop) (v : Value), RepD w h ρ d O v → RepD w h ρ (fz d) O' v
  | .own e z xs, O, O', v, r => by simp only [RepD, Dm.fz] at r ⊢; exact r.freeze
  | .nil, O, O', v, r => by simpa only [RepD, Dm.fz] using r
  | .agg cs, O, O', v, r => by
    simp only [RepD, Dm.fz] at r ⊢
    obtain ⟨vs, hv, hr⟩ := r
    exact ⟨vs, hv, RepDs.fzs cs O O' 0 _ hr⟩
  | .tup cs, O, O', v, r => by
    simp only [RepD, Dm.fz] at r ⊢
    obtain ⟨vs, hv, hr⟩ := r
    exact ⟨vs, hv, RepDs.fzs cs O O' 0 _ hr⟩
  | .fn f cap, O, O', v, r => by
    simp only [RepD, Dm.fz] at r ⊢
    obtain ⟨vs, hv, hr⟩ := r
    exact ⟨vs, hv, RepDs.fzs cap O O' 0 _ hr⟩
  | .p x, O, O', v, r => by simpa only [RepD, Dm.fz] using r
  | .ref id off, O, O', v, r => by simpa only [RepD, Dm.fz] using r
  | .fr cs, O, O', v, r => by simpa only [RepD, Dm.fz] using r
  | .un, O, O', v, r => by simp only [RepD, Dm.fz]
  | .ud, O, O', v, r => by simpa only [RepD, Dm.fz] using r
  | .arr _ _ _ _, O, O', v, r => by simpa only [RepD, Dm.fz] using r
  | .cp _ _, O, O', v, r => by simpa only [RepD, Dm.fz] using r
  | .mt e z, O, O', v, r => by simp only [RepD, Dm.fz] at r ⊢; exact r.freeze
  | .bn _ _ _, O, O', v, r => by simpa only [RepD, Dm.fz] using r
theorem RepDs.fzs {w h ρ} : ∀ (ds : List DV) (O O' : Nat → List Nat → Prop) (k : Nat) (vs : List Value), RepDs w h ρ ds O k vs → RepDs w h ρ (fzs ds) O' k vs
  | [], _, _, _, _, r => by simpa only [RepDs, Dm.fzs] using r
  | d :: ds, O, O', k, vs, r => by
    simp only [RepDs, Dm.fzs] at r ⊢
    obtain ⟨v, rest, hv, h1, h2⟩ := r
    exact ⟨v, rest, hv, RepD.fz d _ _ v h1, RepDs.fzs ds _ _ _ rest h2⟩
end
mutual
inductive Wk : DV → DV → Prop
  | refl (d : DV) : Wk d d
  | un (d : DV) : Wk d .un
  | nilown (e z : Nat) (hz : 0 < z) : Wk .nil (.own e z [])
  | nilp (z : Nat) : Wk .nil (.p (.sl z []))
  | fr (e z : Nat) (xs : List (List PD)) : Wk (.own e z xs) (.p (.sl z xs))
  | ownmt (e z : Nat) : Wk (.own e z []) (.mt e z)
  | mtown (e z : Nat) : Wk (.mt e z) (.own e z [])
  | mtfr (e z : Nat) : Wk (.mt e z) (.p (.sl z []))
  | cpfr (z : Nat) (xs : List (List PD)) : Wk (.cp z xs) (.p (.sl z xs))
  | fn (f : FuncId) {cs ds : List DV} (k : Wks cs ds) : Wk (.fn f cs) (.fn f ds)
  | agg {cs ds : List DV} (k : Wks cs ds) : Wk (.agg cs) (.agg ds)
  | tup {cs ds : List DV} (k : Wks cs ds) : Wk (.tup cs) (.tup ds)
inductive Wks : List DV → List DV → Prop
  | nil : Wks [] []
  | cons {c d : DV} {cs ds : List DV} (k : Wk c d) (ks : Wks cs ds) : Wks (c :: cs) (d :: ds)
end
mutual
theorem RepD.wk {w h ρ} : ∀ {d d' : DV} {O : Nat → List Nat → Prop} {v : Value}, Wk d d' → RepD w h ρ d O v → RepD w h ρ d' O v
  | _, _, _, _, .refl _, r => r
  | _, _, _, _, .un _, r => by simp only [RepD]
  | _, _, _, v, .nilown e z hz, r => by
    simp only [RepD] at r ⊢
    subst r
    exact ⟨[], hz, ⟨by simp, .inl ⟨rfl, rfl⟩⟩, by simp, by simp only [RepRows], by simp, by simp [Value.ownBlock]⟩
  | _, _, _, v, .nilp z, r => by
    simp only [RepD] at r
    show Rep w h (.sl z []) v
    exact .inl ⟨rfl, none, 0, r, fun _ => rfl⟩
  | _, _, _, v, .fr e z xs, r => by
    simp only [RepD] at r
    exact r.freeze
  | _, _, _, v, .ownmt e z, r => by simpa only [RepD] using r
  | _, _, _, v, .mtown e z, r => by simpa only [RepD] using r
  | _, _, _, v, .mtfr e z, r => by simp only [RepD] at r ⊢; exact r.freeze
  | _, _, _, v, .cpfr z xs, r => by simp only [RepD] at r ⊢; exact r.1
  | _, _, _, v, .fn f k, r => by
    simp only [RepD] at r ⊢
    obtain ⟨vs, hv, hr⟩ := r
    exact ⟨vs, hv, RepDs.wk k hr⟩
  | _, _, _, v, .agg k, r => by
    simp only [RepD] at r ⊢
    obtain ⟨vs, hv, hr⟩ := r
    exact ⟨vs, hv, RepDs.wk k hr⟩
  | _, _, _, v, .tup k, r => by
    simp only [RepD] at r ⊢
    obtain ⟨vs, hv, hr⟩ := r
    exact ⟨vs, hv, RepDs.wk k hr⟩
theorem RepDs.wk {w h ρ} : ∀ {ds ds' : List DV} {O : Nat → List Nat → Prop} {k : Nat} {vs : List Value}, Wks ds ds' → RepDs w h ρ ds O k vs → RepDs w h ρ ds' O k vs
  | _, _, _, _, _, .nil, r => r
  | _, _, _, _, _, .cons q qs, r => by
    simp only [RepDs] at r ⊢
    obtain ⟨v, rest, hv, h1, h2⟩ := r
    exact ⟨v, rest, hv, RepD.wk q h1, RepDs.wk qs h2⟩
end
end Go.Proofs.Dm

set_option linter.unusedVariables false
set_option linter.unusedSimpArgs false
namespace Go.Proofs.Dm
open Go Go.RowKit
inductive Pos where
  | tmp (p : List Nat)
  | cell (p : List Nat)
  | box (id : Nat)
  | res (p : List Nat)
structure Ctx where
  P : Program
  W0 : World
  nb : Nat
abbrev Own := Nat → Option Pos
abbrev Mark := Nat → Nat
structure Fr (w0 : World) (h0 : Mark) (ow0 : Own) (w : World) (h : Mark) (ow : Own) : Prop where
  st : Stable w0 h0 w h
  size : w0.heap.size ≤ w.heap.size
  os : w.os = w0.os
  tape : w.tape = w0.tape
  output : w.output = w0.output
  keep : ∀ b, b < w0.heap.size → ow0 b = none → w.heap[b]? = w0.heap[b]? ∧ h b = h0 b ∧ ow b = none
theorem Fr.refl (w : World) (h : Mark) (ow : Own) : Fr w h ow w h ow := ⟨Stable.refl _ _, Nat.le_refl _, rfl, rfl, rfl, fun _ _ h => ⟨rfl, rfl, h⟩⟩
theorem Fr.trans {w0 h0 ow0 w1 h1 ow1 w2 h2 ow2} (a : Fr w0 h0 ow0 w1 h1 ow1) (b : Fr w1 h1 ow1 w2 h2 ow2) : Fr w0 h0 ow0 w2 h2 ow2 :=
  ⟨a.st.trans b.st, Nat.le_trans a.size b.size, b.os.trans a.os, b.tape.trans a.tape, b.output.trans a.output, fun x hx ho => by
    obtain ⟨p, q, r⟩ := a.keep x hx ho
    obtain ⟨p', q', r'⟩ := b.keep x (Nat.lt_of_lt_of_le hx a.size) r
    exact ⟨p'.trans p, q'.trans q, r'⟩⟩
structure Glob (C : Ctx) (w : World) (ow : Own) : Prop where
  nb : C.nb ≤ w.heap.size
  eq : ∀ b, b < C.nb → w.heap[b]? = C.W0.heap[b]? ∧ ow b = none
theorem Glob.fr {C : Ctx} {w0 h0 ow0 w h ow} (g : Glob C w0 ow0) (f : Fr w0 h0 ow0 w h ow) : Glob C w ow :=
  ⟨Nat.le_trans g.nb f.size, fun b hb => by
    obtain ⟨p, q⟩ := g.eq b hb
    obtain ⟨a, _, c⟩ := f.keep b (Nat.lt_of_lt_of_le hb g.nb) q
    exact ⟨a.trans p, c⟩⟩
structure HR (w : World) (h : Mark) (ρ : List Nat) (ow : Own) (bs : List (List DV)) : Prop where
  len : bs.length = ρ.length
  box : ∀ (id : Nat) (box : List DV) (b : Nat), bs[id]? = some box → ρ[id]? = some b → box ≠ [] → ow b = some (.box id) ∧ h b = 0 ∧
    ∃ cs T, w.heap[b]? = some (.cells cs T (0, 0)) ∧ box.length ≤ cs.size ∧ RepDs w h ρ box (fun g p => ow g = some (.cell (id :: p))) 0 (cs.toList.take box.length)
  lt : ∀ g, ow g ≠ none → g < w.heap.size
  hz : ∀ b, w.heap.size ≤ b → h b = 0
structure St where
  tm : Nat → DV
  hp : List (List DV)
structure Rel (C : Ctx) (w0 : World) (h0 : Mark) (ow0 : Own) (r0 : List Nat) (n : Nat) (s : St) (a : Act) (w : World) (h : Mark) (ow : Own) (ρ : List Nat) : Prop where
  glob : Glob C w ow
  fr : Fr w0 h0 ow0 w h ow
  hr : HR w h ρ ow s.hp
  defers : a.defers = []
  size : a.tmps.size = n
  tm : ∀ i, RepD w h ρ (s.tm i) (fun g p => ow g = some (.tmp (i :: p))) (a.tmps.getD i undef)
  dom : ∀ i, n ≤ i → s.tm i = .un
  pre : ∃ ex, ρ = r0 ++ ex
def St.put (s : St) (d : Option Tmp) (v : DV) : St :=
  match d with
  | none => s
  | some d => { s with tm := fun i => if i = d then v else s.tm i }
def dstOk (n : Nat) : Option Tmp → Bool
  | none => true
  | some d => decide (d < n)
theorem getD_put (a : Act) (d : Tmp) (v : Value) (i : Nat) (hd : d < a.tmps.size) : (a.put (some d) v).tmps.getD i undef = if i = d then v else a.tmps.getD i undef := by
  simp only [Act.put, Array.getD_eq_getD_getElem?, Array.getElem?_setIfInBounds]
  by_cases h : d = i
  · subst h; simp [hd]
  · rw [if_neg h, if_neg (fun e => h e.symm)]
theorem Rel.put {C w0 h0 ow0 r0 n s a w h ow ρ} (r : Rel C w0 h0 ow0 r0 n s a w h ow ρ) (d : Option Tmp) (hd : dstOk n d = true) {dv : DV} {v : Value}
    (hv : ∀ O, RepD w h ρ dv O v) : Rel C w0 h0 ow0 r0 n (s.put d dv) (a.put d v) w h ow ρ := by
  cases d with
  | none => exact r
  | some d =>
    simp only [dstOk, decide_eq_true_eq] at hd
    have hd' : d < a.tmps.size := by rw [r.size]; exact hd
    refine ⟨r.glob, r.fr, r.hr, r.defers, by simpa [Act.put] using r.size, fun i => ?_, fun i hi => ?_, r.pre⟩
    · rw [getD_put a d v i hd']
      simp only [St.put]
      split
      · exact hv _
      · exact r.tm i
    · simp only [St.put]
      rw [if_neg (fun e => by rw [e] at hi; exact absurd hi (Nat.not_le_of_gt hd))]
      exact r.dom i hi
def Good (C : Ctx) (w0 : World) (h0 : Mark) (ow0 : Own) (r0 : List Nat) (n : Nat) (s : St) (K : Act → World → Prop) : Prop :=
  ∀ a w h ow ρ, Rel C w0 h0 ow0 r0 n s a w h ow ρ → K a w
def constC : Value → Option DV
  | .bool b => some (.p (.bool b))
  | .int k n => some (.p (.int k n))
  | .string s => some (.p (.str s))
  | .pointer none => some (.p .nilp)
  | .slice none 0 0 => some .nil
  | .nilIface => some .un
  | _ => none
def constCs : List Value → Option (List DV)
  | [] => some []
  | v :: vs => match constC v, constCs vs with
    | some d, some ds => some (d :: ds)
    | _, _ => none
def constD : Value → Option DV
  | .agg cs => (constCs cs.toList).map .agg
  | v => constC v
theorem constC_rep {w h ρ v d O} (e : constC v = some d) : RepD w h ρ d O v := by
  unfold constC at e
  split at e <;> first
    | (injection e with e; subst e; simp only [RepD, Rep]; done)
    | cases e
theorem constCs_rep {w h ρ} : ∀ {vs ds O k}, constCs vs = some ds → RepDs w h ρ ds O k vs
  | [], ds, O, k, e => by simp only [constCs, Option.some.injEq] at e; subst e; simp only [RepDs]
  | v :: vs, ds, O, k, e => by
    simp only [constCs] at e
    split at e
    · rename_i d ds' h1 h2
      injection e with e
      subst e
      simp only [RepDs]
      exact ⟨v, vs, rfl, constC_rep h1, constCs_rep h2⟩
    · cases e
theorem constD_rep {w h ρ v d O} (e : constD v = some d) : RepD w h ρ d O v := by
  unfold constD at e
  split at e
  · rename_i cs
    obtain ⟨ds, h1, h2⟩ := Option.map_eq_some_iff.1 e
    subst h2
    simp only [RepD]
    exact ⟨cs, rfl, constCs_rep h1⟩
  · exact constC_rep e
def evalD (s : St) : Operand → Option DV
  | .tmp t => some (s.tm t)
  | .const v => constD v
  | .func f => some (.fn f [])
  | .global _ => none
def opO (ow : Own) : Operand → Nat → List Nat → Prop
  | .tmp t => fun g p => ow g = some (.tmp (t :: p))
  | _ => fun _ _ => False
theorem evalD_rep {C w0 h0 ow0 r0 n s a w h ow ρ} (r : Rel C w0 h0 ow0 r0 n s a w h ow ρ) {x : Operand} {d : DV} (e : evalD s x = some d) : RepD w h ρ d (opO ow x) (a.eval x) := by
  cases x with
  | tmp t => simp only [evalD, Option.some.injEq] at e; subst e; exact r.tm t
  | const v => exact constD_rep e
  | func f => simp only [evalD, Option.some.injEq] at e; subst e; simp only [RepD, RepDs]; exact ⟨#[], rfl, rfl⟩
  | global g => simp [evalD] at e
def tsz (P : Program) (t : TypeId) : Option Nat := (P.info? t).map (·.size)
def tbytes (P : Program) (t : TypeId) : Option Nat := (P.info? t).map (·.bytes)
def tslice (P : Program) (t : TypeId) : Option TypeId := match P.underlying t with
  | some (.slice e) => some e
  | _ => none
def tagg (P : Program) (t : TypeId) : Option Bool := (P.underlying t).map fun
  | .struct _ => true
  | .array _ _ => true
  | _ => false
def tkind (P : Program) (t : TypeId) : Option Nat := (P.underlying t).map fun
  | .string => 0
  | .bool => 1
  | .int _ => 2
  | .slice _ => 3
  | .pointer _ => 5
  | _ => 4
def tfield (P : Program) (t : TypeId) (i : Nat) : Option (Nat × Nat × Bool) := match P.underlying t with
  | some (.struct fs) => match fs[i]? with
    | some f => match tsz P f.type, tagg P f.type with
      | some z, some g => some (f.offset, z, g)
      | _, _ => none
    | none => none
  | _ => none
theorem tsz_spec {P t z} (e : tsz P t = some z) (w : World) : (sizeOf t).run P w = .ok z w := by
  obtain ⟨i, h1, h2⟩ := Option.map_eq_some_iff.1 e
  subst h2
  simp [sizeOf, typeInfo, program, Sem.run, h1]
theorem tslice_spec {P t e} (q : tslice P t = some e) : P.underlying t = some (.slice e) := by
  unfold tslice at q
  split at q
  · rename_i h; injection q with q; subst q; exact h
  · cases q
theorem tagg_spec {P t g} (e : tagg P t = some g) (w : World) : (isAgg t).run P w = .ok g w := by
  obtain ⟨d, h1, h2⟩ := Option.map_eq_some_iff.1 e
  subst h2
  simp only [isAgg, Sem.run_bind, run_underlying h1, Result.andThen_ok]
  cases d <;> rfl
theorem tkind0 {P t} (q : tkind P t = some 0) : P.underlying t = some .string := by
  obtain ⟨d, h1, h2⟩ := Option.map_eq_some_iff.1 q
  rw [h1]; cases d <;> simp_all
theorem tkind1 {P t} (q : tkind P t = some 1) : P.underlying t = some .bool := by
  obtain ⟨d, h1, h2⟩ := Option.map_eq_some_iff.1 q
  rw [h1]; cases d <;> simp_all
theorem tkind5 {P t} (q : tkind P t = some 5) : ∃ e, P.underlying t = some (.pointer e) := by
  obtain ⟨d, h1, h2⟩ := Option.map_eq_some_iff.1 q
  rw [h1]; cases d <;> simp_all
theorem tfield_spec {P t i off z g} (q : tfield P t i = some (off, z, g)) : ∃ fs f, P.underlying t = some (.struct fs) ∧ fs[i]? = some f ∧ f.offset = off ∧ tsz P f.type = some z ∧ tagg P f.type = some g := by
  unfold tfield at q
  split at q
  · rename_i fs h1
    split at q
    · rename_i f h2
      split at q
      · rename_i z' g' h3 h4
        injection q with q
        obtain ⟨rfl, rfl, rfl⟩ := q
        exact ⟨fs, f, h1, h2, rfl, h3, h4⟩
      · cases q
    · cases q
  · cases q
def intD (op : BinOp) (k : IntKind) (a b : Int) : Option PD :=
  match op with
  | .add => some (.int k (k.wrap (a + b)))
  | .sub => some (.int k (k.wrap (a - b)))
  | .mul => some (.int k (k.wrap (a * b)))
  | .quo => if b = 0 then none else some (.int k (k.wrap (a.tdiv b)))
  | .rem => if b = 0 then none else some (.int k (a.tmod b))
  | .and => some (.int k (k.wrap (BitVec.ofInt k.bits a &&& BitVec.ofInt k.bits b).toNat))
  | .or => some (.int k (k.wrap (BitVec.ofInt k.bits a ||| BitVec.ofInt k.bits b).toNat))
  | .xor => some (.int k (k.wrap (BitVec.ofInt k.bits a ^^^ BitVec.ofInt k.bits b).toNat))
  | .eql => some (.bool (a == b))
  | .neq => some (.bool (a != b))
  | .lss => some (.bool (decide (a < b)))
  | .leq => some (.bool (decide (a ≤ b)))
  | .gtr => some (.bool (decide (a > b)))
  | .geq => some (.bool (decide (a ≥ b)))
  | _ => none
def strD (op : BinOp) (a b : ByteArray) : Option PD :=
  match op with
  | .add => if ((a.size + b.size : Nat) : Int) > IntKind.i64.max then none else some (.str (a ++ b))
  | .eql => some (.bool (a.toList == b.toList))
  | .neq => some (.bool (!(a.toList == b.toList)))
  | _ => none
def nilK : DV → Option Bool
  | .nil => some true
  | .arr _ _ _ (_ + 1) => some false
  | .p (.sl _ (_ :: _)) => some false
  | .own _ _ (_ :: _) => some false
  | _ => none
theorem nilK_ok {d b} (e : nilK d = some b) {w : World} {h : Mark} {ρ O v} (r : RepD w h ρ d O v) : ∃ a n c, v = .slice a n c ∧ a.isNone = b := by
  unfold nilK at e
  split at e
  · injection e with e; subst e; simp only [RepD] at r; exact ⟨none, 0, 0, r, rfl⟩
  · injection e with e; subst e; simp only [RepD] at r
    obtain ⟨b, _, ⟨q, _⟩ | ⟨cap, _, _, _, _, rfl, _⟩⟩ := r
    · cases q
    · exact ⟨_, _, _, rfl, rfl⟩
  · injection e with e; subst e; simp only [RepD, Rep] at r
    rcases r with ⟨q, _⟩ | ⟨g, off, cap, rfl, _⟩
    · cases q
    · exact ⟨_, _, _, rfl, rfl⟩
  · injection e with e; subst e; simp only [RepD] at r
    have r := r.freeze
    simp only [Rep] at r
    rcases r with ⟨q, _⟩ | ⟨g, off, cap, rfl, _⟩
    · cases q
    · exact ⟨_, _, _, rfl, rfl⟩
  · cases e
def flatK (P : Program) : List Field → Nat → Option (List Nat)
  | [], _ => some []
  | f :: fs, k => if f.name ≠ "_" ∧ f.offset = k then (match tkind P f.type with
    | some i => (flatK P fs (k + 1)).map (i :: ·)
    | none => none) else none
def tflat (P : Program) (t : TypeId) : Option (List Nat) := match P.underlying t with
  | some (.struct fs) => if P.stoodInHeld t = false ∧ P.eqGuardType P.depth t = false then flatK P fs.toList 0 else none
  | _ => none
def eqDs : List Nat → List DV → List DV → Option Bool
  | [], [], [] => some true
  | 2 :: ks, .p (.int k a) :: xs, .p (.int k' b) :: ys => if k = k' then (eqDs ks xs ys).map ((a == b) && ·) else none
  | 0 :: ks, .p (.str a) :: xs, .p (.str b) :: ys => (eqDs ks xs ys).map ((a.toList == b.toList) && ·)
  | 1 :: ks, .p (.bool a) :: xs, .p (.bool b) :: ys => (eqDs ks xs ys).map ((a == b) && ·)
  | _, _, _ => none
def binD (P : Program) (t : TypeId) (op : BinOp) : DV → DV → Option PD
  | .agg as, .agg bs => match tflat P t with
    | some ks => (match op with
      | .eql => (eqDs ks as bs).map .bool
      | .neq => (eqDs ks as bs).map fun b => .bool (!b)
      | _ => none)
    | none => none
  | .p (.int k a), .p (.int k' b) => match op with
    | .shl => if b < 0 then none else some (.int k (k.wrap (a * 2 ^ min b.toNat k.bits)))
    | .shr => if b < 0 then none else some (.int k (a.fdiv (2 ^ min b.toNat k.bits)))
    | _ => if k = k' then intD op k a b else none
  | .p (.str a), .p (.str b) => strD op a b
  | .p (.bool a), .p (.bool b) => if tkind P t = some 1 then (match op with
    | .eql => some (.bool (a == b))
    | .neq => some (.bool (!(a == b)))
    | _ => none) else none
  | .ref _ _, .p .nilp => if tkind P t = some 5 then (match op with
    | .eql => some (.bool false)
    | .neq => some (.bool true)
    | _ => none) else none
  | .p .nilp, .p .nilp => if tkind P t = some 5 then (match op with
    | .eql => some (.bool true)
    | .neq => some (.bool false)
    | _ => none) else none
  | d, .nil => if tkind P t = some 3 then (match nilK d with
    | some b => (match op with
      | .eql => some (.bool b)
      | .neq => some (.bool (!b))
      | _ => none)
    | none => none) else none
  | _, _ => none
def scal : PD → Value
  | .bool b => .bool b
  | .int k n => .int k n
  | .str s => .string s
  | .nilp => .pointer none
  | .sl _ _ => .slice none 0 0
theorem scal_bool {w h b} : Rep w h (.bool b) (scal (.bool b)) := by simp only [Rep, scal]
theorem scal_int {w h k n} : Rep w h (.int k n) (scal (.int k n)) := by simp only [Rep, scal]
theorem scal_str {w h s} : Rep w h (.str s) (scal (.str s)) := by simp only [Rep, scal]
theorem intD_ok {P op k a b r} (e : intD op k a b = some r) (hs : op ≠ .shl ∧ op ≠ .shr) (t : TypeId) (w : World) {h : Mark} :
    ∃ v, (binOp op t (.int k a) (.int k b)).run P w = .ok v w ∧ Rep w h r v := by
  cases op <;> simp only [intD] at e <;> first
    | (injection e with e; subst e; refine ⟨scal _, ?_, by first | exact scal_bool | exact scal_int⟩; simp [binOp, Op.intArith, Op.intBits, Op.intCmp, scal]; done)
    | (by_cases hb : b = 0
       · rw [if_pos hb] at e; cases e
       · rw [if_neg hb] at e; injection e with e; subst e; refine ⟨scal _, ?_, scal_int⟩; simp [binOp, Op.intDiv, hb, scal]; done)
    | cases e
theorem equalIn_bool {P : Program} {t : TypeId} (h : P.underlying t = some .bool) (a b : Bool) (w : World) (d : Nat) : (Op.equalIn (d + 1) t (.bool a) (.bool b)).run P w = .ok (a == b) w := by
  simp only [Op.equalIn, Sem.run_bind, run_underlying h, Result.andThen_ok, Sem.run_pure]
theorem equal_bool {P : Program} {t : TypeId} (h : P.underlying t = some .bool) (a b : Bool) (w : World) : (Op.equal t (.bool a) (.bool b)).run P w = .ok (a == b) w :=
  equalIn_bool h a b w 9999
theorem equalIn_ptr {P : Program} {t e : TypeId} (h : P.underlying t = some (.pointer e)) (b : Option Addr) (w : World) (d : Nat) : (Op.equalIn (d + 1) t (.pointer b) (.pointer none)).run P w = .ok b.isNone w := by
  cases b <;> simp only [Op.equalIn, Sem.run_bind, run_underlying h, Result.andThen_ok, Sem.run_pure] <;> rfl
theorem equal_ptr {P : Program} {t e : TypeId} (h : P.underlying t = some (.pointer e)) (b : Option Addr) (w : World) : (Op.equal t (.pointer b) (.pointer none)).run P w = .ok b.isNone w :=
  equalIn_ptr h b w 9999
theorem tkind3 {P t} (q : tkind P t = some 3) : ∃ e, P.underlying t = some (.slice e) := by
  obtain ⟨d, h1, h2⟩ := Option.map_eq_some_iff.1 q
  rw [h1]; cases d <;> simp_all
theorem equal_slice {P : Program} {t e : TypeId} (h : P.underlying t = some (.slice e)) (a : Option Addr) (n c : Nat) (w : World) : (Op.equal t (.slice a n c) (.slice none 0 0)).run P w = .ok a.isNone w := by
  have : ∀ d, (Op.equalIn (d + 1) t (.slice a n c) (.slice none 0 0)).run P w = .ok a.isNone w := fun d => by
    cases a <;> simp [Op.equalIn, run_underlying h]
  exact this 9999
theorem tkind_int {P t} (h : tkind P t = some 2) : ∃ k, P.underlying t = some (.int k) := by
  simp only [tkind] at h
  obtain ⟨u, hu, hq⟩ := Option.map_eq_some_iff.1 h
  cases u <;> simp_all
theorem tkind_str {P t} (h : tkind P t = some 0) : P.underlying t = some .string := by
  simp only [tkind] at h
  obtain ⟨u, hu, hq⟩ := Option.map_eq_some_iff.1 h
  cases u <;> simp_all
theorem tkind_bool {P t} (h : tkind P t = some 1) : P.underlying t = some .bool := by
  simp only [tkind] at h
  obtain ⟨u, hu, hq⟩ := Option.map_eq_some_iff.1 h
  cases u <;> simp_all
theorem eqFields_ok {P : Program} {w : World} {h ρ} {xs ys : Array Value} {d : Nat} : ∀ (fs : List Field) (k : Nat) (ks : List Nat) (as bs : List DV) (b : Bool), flatK P fs k = some ks → eqDs ks as bs = some b →
    (∀ i c, as[i]? = some c → ∃ v O, xs[k + i]? = some v ∧ RepD w h ρ c O v) → (∀ i c, bs[i]? = some c → ∃ v O, ys[k + i]? = some v ∧ RepD w h ρ c O v) →
    (Op.eqFields (d + 1) xs ys fs).run P w = .ok b w
  | [], k, ks, as, bs, b, hf, he, hx, hy => by
    simp only [flatK, Option.some.injEq] at hf
    subst hf
    cases as <;> cases bs <;> simp [eqDs] at he
    subst he
    simp [Op.eqFields]
  | f :: fs, k, ks, as, bs, b, hf, he, hx, hy => by
    simp only [flatK] at hf
    split at hf
    · rename_i hno
      obtain ⟨hn, ho⟩ := hno
      split at hf
      · rename_i i hi
        obtain ⟨ks', hf2, rfl⟩ := Option.map_eq_some_iff.1 hf
        cases as with
        | nil => cases bs <;> simp [eqDs] at he
        | cons a as =>
        cases bs with
        | nil => simp [eqDs] at he
        | cons b2 bs =>
        obtain ⟨vx, O1, gx, rx⟩ := hx 0 a rfl
        obtain ⟨vy, O2, gy, ry⟩ := hy 0 b2 rfl
        rw [Nat.add_zero] at gx gy
        have ih := fun b' he' => eqFields_ok (d := d) fs (k + 1) ks' as bs b' hf2 he'
          (fun i c hc => by have := hx (i + 1) c (by simpa using hc); rwa [show k + (i + 1) = k + 1 + i by omega] at this)
          (fun i c hc => by have := hy (i + 1) c (by simpa using hc); rwa [show k + (i + 1) = k + 1 + i by omega] at this)
        have key : ∀ (q b' : Bool), tagg P f.type = some false → (Op.equalIn (d + 1) f.type vx vy).run P w = .ok q w → eqDs ks' as bs = some b' → b = (q && b') → (Op.eqFields (d + 1) xs ys (f :: fs)).run P w = .ok b w := by
          intro q b' ha h3 h4 h5
          have px : (part f.type xs f.offset).run P w = .ok vx w := by
            simp [part, tagg_spec ha w, ho, gx]
          have py : (part f.type ys f.offset).run P w = .ok vy w := by
            simp [part, tagg_spec ha w, ho, gy]
          simp only [Op.eqFields, Sem.run_ite, if_pos hn, Sem.run_bind, px, py, Result.andThen_ok, h3]
          cases q with
          | true =>
            simp only [Bool.not_true, Bool.false_eq_true, if_false]
            rw [ih b' h4, h5]; rfl
          | false =>
            simp only [Bool.not_false, if_true, Sem.run_pure]
            rw [h5]; rfl
        unfold eqDs at he
        split at he
        · rename_i h1 _ _; cases h1
        · rename_i h1 h2 h3
          cases h1; cases h2; cases h3
          split at he
          · rename_i hkk
            subst hkk
            obtain ⟨b', h4, h5⟩ := Option.map_eq_some_iff.1 he
            simp only [RepD, Rep] at rx ry
            subst rx; subst ry
            obtain ⟨k', hu⟩ := tkind_int hi
            exact key _ b' (by simp [tagg, hu]) (run_equalIn_int w d f.type _ k' _ _ hu) h4 h5.symm
          · cases he
        · rename_i h1 h2 h3
          cases h1; cases h2; cases h3
          obtain ⟨b', h4, h5⟩ := Option.map_eq_some_iff.1 he
          simp only [RepD, Rep] at rx ry
          subst rx; subst ry
          have hu := tkind_str hi
          exact key _ b' (by simp [tagg, hu]) (run_equalIn_string w d f.type _ _ hu) h4 h5.symm
        · rename_i h1 h2 h3
          cases h1; cases h2; cases h3
          obtain ⟨b', h4, h5⟩ := Option.map_eq_some_iff.1 he
          simp only [RepD, Rep] at rx ry
          subst rx; subst ry
          have hu := tkind_bool hi
          exact key _ b' (by simp [tagg, hu]) (run_equalIn_bool' w d f.type _ _ hu) h4 h5.symm
        · cases he
      · cases hf
    · cases hf
theorem tflat_spec {P t ks} (e : tflat P t = some ks) : ∃ fs, P.underlying t = some (.struct fs) ∧ P.stoodInHeld t = false ∧ P.eqGuardType P.depth t = false ∧ flatK P fs.toList 0 = some ks := by
  unfold tflat at e
  split at e
  · rename_i fs hu
    split at e
    · rename_i h; exact ⟨fs, hu, h.1, h.2, e⟩
    · cases e
  · cases e
theorem equal_agg {P t ks as bs b} (e : tflat P t = some ks) (he : eqDs ks as bs = some b) {w : World} {h ρ O O'} {us vs : Array Value} (rx : RepDs w h ρ as O 0 us.toList) (ry : RepDs w h ρ bs O' 0 vs.toList) :
    (Op.equalIn 10000 t (.agg us) (.agg vs)).run P w = .ok b w := by
  obtain ⟨fs, hu, h1, h2, h3⟩ := tflat_spec e
  have hfs : P.fieldsOf t = fs := by simp [Program.fieldsOf, hu]
  rw [run_equalIn_agg w 9999 t us vs (by rw [hfs]; exact hu) h1, hfs]
  exact eqFields_ok (d := 9998) (h := h) (ρ := ρ) fs.toList 0 ks as bs b h3 he
    (fun i c hc => by obtain ⟨v, g1, g2⟩ := rx.get i c hc; exact ⟨v, _, by simpa using g1, g2⟩)
    (fun i c hc => by obtain ⟨v, g1, g2⟩ := ry.get i c hc; exact ⟨v, _, by simpa using g1, g2⟩)
theorem binD_ok {P t op x y r} (e : binD P t op x y = some r) {w : World} {h : Mark} {ρ O O' vx vy} (rx : RepD w h ρ x O vx) (ry : RepD w h ρ y O' vy) :
    ∃ v, (binOp op t vx vy).run P w = .ok v w ∧ Rep w h r v := by
  unfold binD at e
  split at e
  · rename_i as bs
    simp only [RepD] at rx ry
    obtain ⟨us, rfl, rx⟩ := rx
    obtain ⟨vs, rfl, ry⟩ := ry
    split at e
    · rename_i ks hks
      split at e
      · obtain ⟨b, h1, rfl⟩ := Option.map_eq_some_iff.1 e
        exact ⟨scal _, by rw [run_eql_struct, equal_agg hks h1 rx ry]; rfl, scal_bool⟩
      · obtain ⟨b, h1, rfl⟩ := Option.map_eq_some_iff.1 e
        exact ⟨scal _, by rw [run_neq_struct, equal_agg hks h1 rx ry]; rfl, scal_bool⟩
      · cases e
    · cases e
  · rename_i k a k' b
    simp only [RepD, Rep] at rx ry
    subst rx; subst ry
    split at e
    · by_cases hb : b < 0
      · rw [if_pos hb] at e; cases e
      · rw [if_neg hb] at e; injection e with e; subst e
        exact ⟨scal _, by simp [binOp, Op.shift, hb, scal], scal_int⟩
    · by_cases hb : b < 0
      · rw [if_pos hb] at e; cases e
      · rw [if_neg hb] at e; injection e with e; subst e
        exact ⟨scal _, by simp [binOp, Op.shift, hb, scal], scal_int⟩
    · rename_i h1 h2
      split at e
      · rename_i hk
        subst hk
        exact intD_ok e ⟨h1, h2⟩ t w
      · cases e
  · rename_i a b
    simp only [RepD, Rep] at rx ry
    subst rx; subst ry
    cases op <;> simp only [strD] at e <;> first
      | (injection e with e; subst e; exact ⟨scal _, by simp only [binOp, Op.stringOp, Sem.run_pure, scal], scal_bool⟩)
      | (by_cases hb : ((a.size + b.size : Nat) : Int) > IntKind.i64.max
         · rw [if_pos hb] at e; cases e
         · rw [if_neg hb] at e; injection e with e; subst e
           exact ⟨scal _, by simp only [binOp, Op.stringOp, if_neg hb, Sem.run_pure, scal], scal_str⟩)
      | cases e
  · rename_i a b
    simp only [RepD, Rep] at rx ry
    subst rx; subst ry
    split at e
    · rename_i ht
      have hu := tkind1 ht
      cases op <;> first
        | (injection e with e; subst e; exact ⟨scal _, by simp only [binOp, Sem.run_bind, equal_bool hu, Result.andThen_ok, Sem.run_pure, scal], scal_bool⟩)
        | cases e
    · cases e
  · rename_i i o
    simp only [RepD, Rep] at rx ry
    obtain ⟨b, _, rx⟩ := rx
    subst rx; subst ry
    split at e
    · rename_i ht
      obtain ⟨el, hu⟩ := tkind5 ht
      cases op <;> first
        | (injection e with e; subst e; exact ⟨scal _, by simp only [binOp, Sem.run_bind, equal_ptr hu, Result.andThen_ok, Sem.run_pure, Option.isNone, Bool.not_false, scal], scal_bool⟩)
        | cases e
    · cases e
  · simp only [RepD, Rep] at rx ry
    subst rx; subst ry
    split at e
    · rename_i ht
      obtain ⟨el, hu⟩ := tkind5 ht
      cases op <;> first
        | (injection e with e; subst e; exact ⟨scal _, by simp only [binOp, Sem.run_bind, equal_ptr hu, Result.andThen_ok, Sem.run_pure, Option.isNone, Bool.not_true, scal], scal_bool⟩)
        | cases e
    · cases e
  · simp only [RepD] at ry
    subst ry
    split at e
    · rename_i ht
      obtain ⟨el, hu⟩ := tkind3 ht
      split at e
      · rename_i b hb
        obtain ⟨a, n, c, rfl, q⟩ := nilK_ok hb rx
        subst q
        cases op <;> first
          | (injection e with e; subst e; exact ⟨scal _, by simp only [binOp, Sem.run_bind, equal_slice hu, Result.andThen_ok, Sem.run_pure, scal], scal_bool⟩)
          | cases e
      · cases e
    · cases e
  · cases e
end Go.Proofs.Dm
