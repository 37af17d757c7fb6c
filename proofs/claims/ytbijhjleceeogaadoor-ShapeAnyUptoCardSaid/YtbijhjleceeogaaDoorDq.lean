/- Part of the proof: contracts of the functions, walked by the D-machine. No condition. -/
import Derived.Test.YtbijhjleceeogaaDoorDn
import Derived.ChangeSlices
import Derived.Deep.Slices
import Derived.Deep.Strs
import Derived.ChangeSame
import Derived.Lib.SmallJoins
set_option linter.unusedVariables false
namespace Go.Proofs.Dm
open Go Go.RowKit Go.ChangeShapes Go.WideShapes

theorem rep_ints {W : World} {a : Addr} {len cap : Nat} {zs : List Int} (hcell : ∀ i, i < zs.length → W.cell? (a.add i) = some (.int .i64 (zs.getD i 0))) (hl : len ≤ zs.length) (hc : len ≤ cap) :
    Rep W (allMark W) (.sl 1 ((zs.take len).map fun x => [.int .i64 x])) (.slice (some a) len cap) := by
  have hlen : ((zs.take len).map fun x => [PD.int .i64 x]).length = len := by simp; omega
  simp only [Rep]
  rcases Nat.eq_zero_or_pos len with h0 | h0
  · subst h0
    exact .inl ⟨by simp, some a, cap, rfl, by simp⟩
  · right
    obtain ⟨b, off, spot⟩ := a
    have hspot : spot = none := by
      have := hcell 0 (by omega)
      cases spot with
      | none => rfl
      | some s =>
        simp [World.cell?, Addr.add] at this
        split at this <;> simp at this
    subst hspot
    have hc' : ∀ i, i < zs.length → W.cell? ⟨b, off + i, none⟩ = some (.int .i64 (zs.getD i 0)) := fun i hi => by
      have := hcell i hi
      rwa [addr_add] at this
    refine ⟨b, off, cap, by rw [hlen], by rw [hlen]; exact hc, ?_, ?_, ?_⟩
    · rw [hlen]
      have := hc' (len - 1) (by omega)
      unfold allMark
      simp only [World.cell?] at this
      cases hb : W.heap[b]? with
      | none => rw [hb] at this; simp at this
      | some o =>
        rw [hb] at this
        cases o <;> simp at this
        rename_i cs T f
        have := (Array.getElem?_eq_some_iff.1 this).1
        simp only; omega
    · intro x hx
      obtain ⟨y, _, rfl⟩ := List.mem_map.1 hx
      rfl
    · refine RepRows.of_get (size := 1) (fun x hx => by obtain ⟨y, _, rfl⟩ := List.mem_map.1 hx; rfl) fun i x hx => ?_
      rw [List.getElem?_map] at hx
      obtain ⟨y, hy, rfl⟩ := Option.map_eq_some_iff.1 hx
      have hi := (List.getElem?_eq_some_iff.1 hy).1
      simp at hi
      rw [List.getElem?_take, if_pos (by omega)] at hy
      simp only [RepRow, Rep]
      refine ⟨⟨_, ?_, rfl⟩, trivial⟩
      have := hc' i (by omega)
      simp only [Nat.mul_one, Nat.add_zero]
      rw [this, List.getD_eq_getElem?_getD, hy]; rfl

theorem rep_of_trod {H : Type} {enc : TypeId × Value → H} {P : Program} {W : World} {t e : TypeId} {v : Value} {d : DataW H} {p : List MemPlace} (ht : P.underlying t = some (.slice e)) (he : P.underlying e = some (.int .i64)) (hc : P.cellsOf e = 1)
    (hv : ∃ a l c, v = .slice a l c) (h : DataW.Trod enc P W 0 (fun _ => true) true t v d p) : ∃ xs : List Int, Rep W (allMark W) (.sl 1 (xs.map fun x => [.int .i64 x])) v := by
  obtain ⟨a0, l0, c0, rfl⟩ := hv
  obtain ⟨fuel, hf⟩ := h
  rcases open_ints ht he hc hf with ⟨hcs, _⟩ | ⟨a, len, cap, zs, hcs, _, h1, h2, h3, _, h4, _⟩
  · simp [Value.cells] at hcs
    obtain ⟨rfl, rfl, rfl⟩ := hcs
    exact ⟨[], by simp only [Rep]; exact .inl ⟨rfl, none, 0, rfl, fun _ => rfl⟩⟩
  · simp [Value.cells] at hcs
    obtain ⟨rfl, rfl, rfl⟩ := hcs
    simp only [if_true] at h3
    exact ⟨zs.take l0, rep_ints h4 (by omega) h1⟩
end Go.Proofs.Dm

set_option linter.unusedVariables false
namespace Go.Proofs.Dm
open Go Go.RowKit Go.ChangeShapes Go.WideShapes Go.Deep

theorem cells3 {W : World} {a : Addr} {cs : List Value} (h : W.cells? 0 a 3 = some cs) : ∃ x y z, cs = [x, y, z] ∧ W.cell? (a.add 0) = some x ∧ W.cell? (a.add 1) = some y ∧ W.cell? (a.add 2) = some z := by
  unfold World.cells? at h
  rw [if_pos (Nat.zero_le _)] at h
  have e : List.range 3 = [0, 1, 2] := rfl
  rw [e] at h
  simp only [List.mapM_cons, List.mapM_nil] at h
  cases h0 : W.cell? (a.add 0) with
  | none => rw [h0] at h; simp at h
  | some x =>
    cases h1 : W.cell? (a.add 1) with
    | none => rw [h0, h1] at h; simp at h
    | some y =>
      cases h2 : W.cell? (a.add 2) with
      | none => rw [h0, h1, h2] at h; simp at h
      | some z =>
        rw [h0, h1, h2] at h
        simp at h
        exact ⟨x, y, z, h.symm, rfl, rfl, rfl⟩

theorem rep_structs {W : World} {a : Addr} {len cap : Nat} {os : List (Int × Int × Int)} (hl : os.length = len) (hc : len ≤ cap)
    (hcell : ∀ i (h : i < os.length), W.cell? ((a.add (i * 3)).add 0) = some (.int .i64 os[i].1) ∧ W.cell? ((a.add (i * 3)).add 1) = some (.int .i64 os[i].2.1) ∧ W.cell? ((a.add (i * 3)).add 2) = some (.int .i64 os[i].2.2)) :
    Rep W (allMark W) (.sl 3 (os.map fun o => [.int .i64 o.1, .int .i64 o.2.1, .int .i64 o.2.2])) (.slice (some a) len cap) := by
  have hlen : (os.map fun o : Int × Int × Int => [PD.int .i64 o.1, .int .i64 o.2.1, .int .i64 o.2.2]).length = len := by simp; omega
  simp only [Rep]
  rcases Nat.eq_zero_or_pos len with h0 | h0
  · subst h0
    have : os = [] := List.eq_nil_of_length_eq_zero hl
    subst this
    exact .inl ⟨rfl, some a, cap, rfl, by simp⟩
  · right
    obtain ⟨b, off, spot⟩ := a
    have hspot : spot = none := by
      have := (hcell 0 (by omega)).1
      cases spot with
      | none => rfl
      | some s =>
        simp [World.cell?, Addr.add] at this
        split at this <;> simp at this
    subst hspot
    have hc' : ∀ i (h : i < os.length), W.cell? ⟨b, off + i * 3, none⟩ = some (.int .i64 os[i].1) ∧ W.cell? ⟨b, off + i * 3 + 1, none⟩ = some (.int .i64 os[i].2.1) ∧ W.cell? ⟨b, off + i * 3 + 2, none⟩ = some (.int .i64 os[i].2.2) := fun i hi => by
      have := hcell i hi
      simpa only [addr_add, Nat.add_zero] using this
    refine ⟨b, off, cap, by rw [hlen], by rw [hlen]; exact hc, ?_, ?_, ?_⟩
    · rw [hlen]
      have := (hc' (len - 1) (by omega)).2.2
      unfold allMark
      simp only [World.cell?] at this
      cases hb : W.heap[b]? with
      | none => rw [hb] at this; simp at this
      | some o =>
        rw [hb] at this
        cases o <;> simp at this
        rename_i cs T f
        have := (Array.getElem?_eq_some_iff.1 this).1
        simp only; omega
    · intro x hx
      obtain ⟨y, _, rfl⟩ := List.mem_map.1 hx
      rfl
    · refine RepRows.of_get (size := 3) (fun x hx => by obtain ⟨y, _, rfl⟩ := List.mem_map.1 hx; rfl) fun i x hx => ?_
      rw [List.getElem?_map] at hx
      obtain ⟨y, hy, rfl⟩ := Option.map_eq_some_iff.1 hx
      obtain ⟨hi, ey⟩ := List.getElem?_eq_some_iff.1 hy
      obtain ⟨k0, k1, k2⟩ := hc' i hi
      rw [ey] at k0 k1 k2
      simp only [RepRow, Rep]
      exact ⟨⟨_, by simpa using k0, rfl⟩, ⟨_, by simpa [Nat.add_assoc] using k1, rfl⟩, ⟨_, by simpa [Nat.add_assoc] using k2, rfl⟩, trivial⟩

theorem rep_of_ops {H : Type} {enc : TypeId × Value → H} {P : Program} {W : World} {t e u : TypeId} {f0 f1 f2 : Field} {v : Value} {d : DataW H} {p : List MemPlace} (ht : P.underlying t = some (.slice e)) (he : P.underlying e = some (.struct #[f0, f1, f2])) (hu : P.underlying u = some (.int .i64)) (hc : P.cellsOf e = 3) (hc1 : P.cellsOf u = 1)
    (q0 : f0.type = u ∧ f0.offset = 0) (q1 : f1.type = u ∧ f1.offset = 1) (q2 : f2.type = u ∧ f2.offset = 2)
    (hv : ∃ a l c, v = .slice a l c) (h : DataW.Trod enc P W 0 (fun _ => true) true t v d p) : ∃ os : List (Int × Int × Int), Rep W (allMark W) (.sl 3 (os.map fun o => [.int .i64 o.1, .int .i64 o.2.1, .int .i64 o.2.2])) v ∧ ∀ o ∈ os, o.2.1 ≤ 9223372036854775807 := by
  obtain ⟨a0, l0, c0, rfl⟩ := hv
  obtain ⟨fuel, hf⟩ := h
  rcases open_slice ht hf with ⟨hcs, _⟩ | ⟨a, len, cap, m, n, D, Pl, hcs, _, h1, h2, h3, _, h4⟩
  · simp [Value.cells] at hcs
    obtain ⟨rfl, rfl, rfl⟩ := hcs
    exact ⟨[], by simp only [Rep]; exact .inl ⟨rfl, none, 0, rfl, fun _ => rfl⟩, by simp⟩
  · simp [Value.cells] at hcs
    obtain ⟨rfl, rfl, rfl⟩ := hcs
    simp only [if_true] at h3
    have key : ∀ i, ∃ o : Int × Int × Int, i < l0 → (W.cell? ((a.add (i * 3)).add 0) = some (.int .i64 o.1) ∧ W.cell? ((a.add (i * 3)).add 1) = some (.int .i64 o.2.1) ∧ W.cell? ((a.add (i * 3)).add 2) = some (.int .i64 o.2.2)) ∧ o.2.1 ≤ 9223372036854775807 := by
      intro i
      by_cases hi : i < l0
      · obtain ⟨cs', hcs', htr⟩ := h4 i (by omega)
        rw [hc] at hcs'
        obtain ⟨x, y, z, rfl, k0, k1, k2⟩ := cells3 hcs'
        obtain ⟨y0, y1, y2, n', _, _, t0, t1, t2⟩ := trod_struct3 he htr
        rw [q0.1, q0.2, hc1] at t0
        rw [q1.1, q1.2, hc1] at t1
        rw [q2.1, q2.2, hc1] at t2
        obtain ⟨x', e0, _, _⟩ := DataW.trod_int hu t0
        obtain ⟨y', e1, _, w1⟩ := DataW.trod_int hu t1
        obtain ⟨z', e2, _, _⟩ := DataW.trod_int hu t2
        simp at e0 e1 e2
        subst e0; subst e1; subst e2
        refine ⟨(x', y', z'), fun _ => ⟨⟨k0, k1, k2⟩, ?_⟩⟩
        simp only [Lit.wf, Bool.and_eq_true, decide_eq_true_eq] at w1
        have := w1.2
        simpa [IntKind.max, IntKind.signed, IntKind.bits] using this
      · exact ⟨(0, 0, 0), fun h => absurd h hi⟩
    let g : Nat → Int × Int × Int := fun i => (key i).choose
    have hg := fun i hi => (key i).choose_spec hi
    refine ⟨(List.range l0).map g, rep_structs (by simp) h1 (fun i hi => ?_), fun o ho => ?_⟩
    · have hi' : i < l0 := by simpa using hi
      have := (hg i hi').1
      simpa [g] using this
    · obtain ⟨i, hi, rfl⟩ := List.mem_map.1 ho
      exact (hg i (by simpa using hi)).2
end Go.Proofs.Dm

set_option linter.unusedVariables false
namespace Go.Proofs.Dm
open Go Go.RowKit Go.ChangeShapes Go.WideShapes Go.Deep

theorem cells_at {W : World} {a : Addr} {k : Nat} {cs : List Value} (h : W.cells? 0 a k = some cs) : cs.length = k ∧ ∀ j (hj : j < cs.length), W.cell? (a.add j) = some cs[j] := by
  unfold World.cells? at h
  rw [if_pos (Nat.zero_le _)] at h
  have hl : ∀ (l : List Nat) (cs : List Value), l.mapM (fun i => W.cell? (a.add i)) = some cs → cs.length = l.length ∧ ∀ j (hj : j < cs.length) (hj' : j < l.length), W.cell? (a.add l[j]) = some cs[j] := by
    intro l
    induction l with
    | nil => intro cs h; simp at h; subst h; exact ⟨rfl, fun j hj => absurd hj (by simp)⟩
    | cons x xs ih =>
      intro cs h
      rw [List.mapM_cons] at h
      cases h0 : W.cell? (a.add x) with
      | none => rw [h0] at h; simp at h
      | some v =>
        cases h1 : xs.mapM (fun i => W.cell? (a.add i)) with
        | none => rw [h0, h1] at h; simp at h
        | some vs =>
          rw [h0, h1] at h
          simp at h
          subst h
          obtain ⟨e1, e2⟩ := ih vs h1
          refine ⟨by simp [e1], fun j hj hj' => ?_⟩
          cases j with
          | zero => simpa using h0
          | succ j => simpa using e2 j (by simpa using hj) (by simpa using hj')
  obtain ⟨e1, e2⟩ := hl _ _ h
  rw [List.length_range] at e1
  refine ⟨e1, fun j hj => ?_⟩
  have := e2 j hj (by simp; omega)
  simpa using this

theorem rep_rows {α : Type} {W : World} {a : Addr} {len cap k : Nat} {os : List α} (enc : α → List PD) (hk : 0 < k) (he : ∀ o, (enc o).length = k) (hl : os.length = len) (hc : len ≤ cap)
    (hcell : ∀ i (h : i < os.length), RepRow W (allMark W) (enc os[i]) (fun j => W.cell? ((a.add (i * k)).add j))) :
    Rep W (allMark W) (.sl k (os.map enc)) (.slice (some a) len cap) := by
  have hlen : (os.map enc).length = len := by simp; omega
  simp only [Rep]
  rcases Nat.eq_zero_or_pos len with h0 | h0
  · subst h0
    have : os = [] := List.eq_nil_of_length_eq_zero hl
    subst this
    exact .inl ⟨rfl, some a, cap, rfl, by simp⟩
  · right
    obtain ⟨b, off, spot⟩ := a
    have hlast : ∀ i (h : i < os.length) j, j < k → ∃ u, W.cell? (((⟨b, off, spot⟩ : Addr).add (i * k)).add j) = some u := fun i h j hj => by
      obtain ⟨u, hu, _⟩ := RepRow.get (hcell i h) j _ (List.getElem?_eq_getElem (by rw [he]; exact hj))
      exact ⟨u, hu⟩
    have hspot : spot = none := by
      obtain ⟨u, this⟩ := hlast 0 (by omega) 0 hk
      cases spot with
      | none => rfl
      | some s =>
        simp [World.cell?, Addr.add] at this
        split at this <;> simp at this
    subst hspot
    refine ⟨b, off, cap, by rw [hlen], by rw [hlen]; exact hc, ?_, ?_, ?_⟩
    · rw [hlen]
      obtain ⟨u, this⟩ := hlast (len - 1) (by omega) (k - 1) (by omega)
      simp only [addr_add] at this
      unfold allMark
      simp only [World.cell?] at this
      cases hb : W.heap[b]? with
      | none => rw [hb] at this; simp at this
      | some o =>
        rw [hb] at this
        cases o <;> simp at this
        rename_i cs T f
        have h2 := (Array.getElem?_eq_some_iff.1 this).1
        have h3 : (len - 1) * k + k = len * k := by rw [← Nat.succ_mul]; congr 1; omega
        simp only; omega
    · intro x hx
      obtain ⟨y, _, rfl⟩ := List.mem_map.1 hx
      exact he y
    · refine RepRows.of_get (size := k) (fun x hx => by obtain ⟨y, _, rfl⟩ := List.mem_map.1 hx; exact he y) fun i x hx => ?_
      rw [List.getElem?_map] at hx
      obtain ⟨y, hy, rfl⟩ := Option.map_eq_some_iff.1 hx
      obtain ⟨hi, ey⟩ := List.getElem?_eq_some_iff.1 hy
      have := hcell i hi
      rw [ey] at this
      simpa only [addr_add, Nat.add_assoc] using this

/-- A slice of structs among the arguments: `dec` reads one struct's cells. -/
theorem rep_of_rows {H α : Type} {enc : TypeId × Value → H} {P : Program} {W : World} {t e : TypeId} {v : Value} {d : DataW H} {p : List MemPlace} {k : Nat} (row : α → List PD) (x0 : α) (ht : P.underlying t = some (.slice e)) (hc : P.cellsOf e = k) (hk : 0 < k) (he : ∀ o, (row o).length = k)
    (hdec : ∀ {n : Nat} {cs : List Value} {x}, cs.length = k → DataW.trod enc P W 0 (fun _ => true) true n e cs = some x → ∃ o, RepRow W (allMark W) (row o) (fun j => cs[j]?))
    (hv : ∃ a l c, v = .slice a l c) (h : DataW.Trod enc P W 0 (fun _ => true) true t v d p) : ∃ os : List α, Rep W (allMark W) (.sl k (os.map row)) v := by
  obtain ⟨a0, l0, c0, rfl⟩ := hv
  obtain ⟨fuel, hf⟩ := h
  rcases open_slice ht hf with ⟨hcs, _⟩ | ⟨a, len, cap, m, n, D, Pl, hcs, _, h1, h2, h3, _, h4⟩
  · simp [Value.cells] at hcs
    obtain ⟨rfl, rfl, rfl⟩ := hcs
    exact ⟨[], by simp only [Rep]; exact .inl ⟨rfl, none, 0, rfl, fun _ => rfl⟩⟩
  · simp [Value.cells] at hcs
    obtain ⟨rfl, rfl, rfl⟩ := hcs
    simp only [if_true] at h3
    have key : ∀ i, ∃ o : α, i < l0 → RepRow W (allMark W) (row o) (fun j => W.cell? ((a.add (i * k)).add j)) := by
      intro i
      by_cases hi : i < l0
      · obtain ⟨cs', hcs', htr⟩ := h4 i (by omega)
        rw [hc] at hcs'
        obtain ⟨e1, e2⟩ := cells_at hcs'
        obtain ⟨o, ho⟩ := hdec e1 htr
        refine ⟨o, fun _ => RepRow.of_get fun j c hj => ?_⟩
        obtain ⟨u, hu, hr⟩ := RepRow.get ho j c hj
        obtain ⟨q1, q2⟩ := List.getElem?_eq_some_iff.1 hu
        exact ⟨u, by rw [e2 j q1, q2], hr⟩
      · exact ⟨x0, fun h => absurd h hi⟩
    let g : Nat → α := fun i => (key i).choose
    have hg := fun i hi => (key i).choose_spec hi
    refine ⟨(List.range l0).map g, rep_rows row hk he (by simp) h1 (fun i hi => ?_)⟩
    have hi' : i < l0 := by simpa using hi
    have := hg i hi'
    simpa [g] using this
end Go.Proofs.Dm

set_option linter.unusedVariables false
namespace Go.Proofs.Dm
open Go Go.RowKit Go.ChangeShapes Go.WideShapes Go.Deep

theorem rep_of_rowsB {H α : Type} {enc : TypeId × Value → H} {P : Program} {W : World} {t e : TypeId} {v : Value} {d : DataW H} {p : List MemPlace} {k : Nat} (row : α → List PD) (x0 : α) (ht : P.underlying t = some (.slice e)) (hc : P.cellsOf e = k) (hk : 0 < k) (he : ∀ o, (row o).length = k)
    (bulk : DataW H → Nat) (hbe : ∀ es sp x, x ∈ es → bulk x ≤ bulk (.slice es sp)) (hbl : ∀ es sp, es.length ≤ bulk (.slice es sp)) (B : α → Nat)
    (hdec : ∀ {n : Nat} {cs : List Value} {x}, cs.length = k → DataW.trod enc P W 0 (fun _ => true) true n e cs = some x → ∃ o, RepRow W (allMark W) (row o) (fun j => cs[j]?) ∧ B o ≤ bulk x.1)
    (hv : ∃ a l c, v = .slice a l c) (h : DataW.Trod enc P W 0 (fun _ => true) true t v d p) : ∃ os : List α, Rep W (allMark W) (.sl k (os.map row)) v ∧ os.length ≤ bulk d ∧ ∀ o ∈ os, B o ≤ bulk d := by
  obtain ⟨a0, l0, c0, rfl⟩ := hv
  obtain ⟨fuel, hf⟩ := h
  rcases open_slice ht hf with ⟨hcs, _⟩ | ⟨a, len, cap, m, n, D, Pl, hcs, _, h1, h2, h3, hx, h4⟩
  · simp [Value.cells] at hcs
    obtain ⟨rfl, rfl, rfl⟩ := hcs
    exact ⟨[], by simp only [Rep]; exact .inl ⟨rfl, none, 0, rfl, fun _ => rfl⟩, Nat.zero_le _, by simp⟩
  · simp [Value.cells] at hcs
    obtain ⟨rfl, rfl, rfl⟩ := hcs
    simp only [if_true] at h3
    have hd : d = .slice ((List.range l0).map D) ((List.range (m - l0)).map fun j => D (l0 + j)) := congrArg Prod.fst hx
    have key : ∀ i, ∃ o : α, i < l0 → RepRow W (allMark W) (row o) (fun j => W.cell? ((a.add (i * k)).add j)) ∧ B o ≤ bulk (D i) := by
      intro i
      by_cases hi : i < l0
      · obtain ⟨cs', hcs', htr⟩ := h4 i (by omega)
        rw [hc] at hcs'
        obtain ⟨e1, e2⟩ := cells_at hcs'
        obtain ⟨o, ho, hb⟩ := hdec e1 htr
        refine ⟨o, fun _ => ⟨RepRow.of_get fun j c hj => ?_, hb⟩⟩
        obtain ⟨u, hu, hr⟩ := RepRow.get ho j c hj
        obtain ⟨q1, q2⟩ := List.getElem?_eq_some_iff.1 hu
        exact ⟨u, by rw [e2 j q1, q2], hr⟩
      · exact ⟨x0, fun h => absurd h hi⟩
    let g : Nat → α := fun i => (key i).choose
    have hg := fun i hi => (key i).choose_spec hi
    refine ⟨(List.range l0).map g, rep_rows row hk he (by simp) h1 (fun i hi => ?_), ?_, fun o ho => ?_⟩
    · have hi' : i < l0 := by simpa using hi
      have := (hg i hi').1
      simpa [g] using this
    · rw [hd]
      have := hbl ((List.range l0).map D) ((List.range (m - l0)).map fun j => D (l0 + j))
      simpa using this
    · obtain ⟨i, hi, rfl⟩ := List.mem_map.1 ho
      have hi' : i < l0 := by simpa using hi
      rw [hd]
      exact Nat.le_trans (hg i hi').2 (hbe _ _ _ (List.mem_map.2 ⟨i, hi, rfl⟩))
end Go.Proofs.Dm

set_option linter.unusedVariables false
namespace Go.Proofs.Dm
open Go Go.RowKit Go.ChangeShapes Go.WideShapes Go.Deep

/-- As rep_of_rowsB, at the cells themselves; `dec` is asked of what is smaller than the whole alone. -/
theorem rep_of_rowsC {H α : Type} {enc : TypeId × Value → H} {P : Program} {W : World} {t e : TypeId} {v : Value} {x : DataW H × List MemPlace} {k fuel : Nat} (row : α → List PD) (x0 : α) (ht : P.underlying t = some (.slice e)) (hc : P.cellsOf e = k) (hk : 0 < k) (he : ∀ o, (row o).length = k)
    (bulk : DataW H → Nat) (hbe : ∀ es sp x, x ∈ es → bulk x ≤ bulk (.slice es sp)) (hbl : ∀ es sp, es.length ≤ bulk (.slice es sp)) (B : α → Nat → Prop) (hB : ∀ o m m', m ≤ m' → B o m → B o m')
    (hdec : ∀ {n : Nat} {cs : List Value} {y : DataW H × List MemPlace}, cs.length = k → SizeOf.sizeOf y.1 < SizeOf.sizeOf x.1 → DataW.trod enc P W 0 (fun _ => true) true n e cs = some y → ∃ o, RepRow W (allMark W) (row o) (fun j => cs[j]?) ∧ B o (bulk y.1))
    (h : DataW.trod enc P W 0 (fun _ => true) true fuel t [v] = some x) : ∃ os : List α, Rep W (allMark W) (.sl k (os.map row)) v ∧ os.length ≤ bulk x.1 ∧ ∀ o ∈ os, B o (bulk x.1) := by
  rcases open_slice ht h with ⟨hcs, _⟩ | ⟨a, len, cap, m, n, D, Pl, hcs, _, h1, h2, h3, hx, h4⟩
  · simp at hcs
    subst hcs
    exact ⟨[], by simp only [Rep]; exact .inl ⟨rfl, none, 0, rfl, fun _ => rfl⟩, Nat.zero_le _, by simp⟩
  · simp at hcs
    subst hcs
    simp only [if_true] at h3
    have hd : x.1 = .slice ((List.range len).map D) ((List.range (m - len)).map fun j => D (len + j)) := congrArg Prod.fst hx
    have key : ∀ i, ∃ o : α, i < len → RepRow W (allMark W) (row o) (fun j => W.cell? ((a.add (i * k)).add j)) ∧ B o (bulk (D i)) := by
      intro i
      by_cases hi : i < len
      · obtain ⟨cs', hcs', htr⟩ := h4 i (by omega)
        rw [hc] at hcs'
        obtain ⟨e1, e2⟩ := cells_at hcs'
        have hm : D i ∈ (List.range len).map D := List.mem_map.2 ⟨i, List.mem_range.2 hi, rfl⟩
        have hsz : SizeOf.sizeOf (D i) < SizeOf.sizeOf x.1 := by
          rw [hd]
          have := List.sizeOf_lt_of_mem hm
          simp only [DataW.slice.sizeOf_spec]
          omega
        obtain ⟨o, ho, hb⟩ := hdec (y := (D i, Pl i)) e1 hsz htr
        refine ⟨o, fun _ => ⟨RepRow.of_get fun j c hj => ?_, hb⟩⟩
        obtain ⟨u, hu, hr⟩ := RepRow.get ho j c hj
        obtain ⟨q1, q2⟩ := List.getElem?_eq_some_iff.1 hu
        exact ⟨u, by rw [e2 j q1, q2], hr⟩
      · exact ⟨x0, fun h => absurd h hi⟩
    let g : Nat → α := fun i => (key i).choose
    have hg := fun i hi => (key i).choose_spec hi
    refine ⟨(List.range len).map g, rep_rows row hk he (by simp) h1 (fun i hi => ?_), ?_, fun o ho => ?_⟩
    · have hi' : i < len := by simpa using hi
      have := (hg i hi').1
      simpa [g] using this
    · rw [hd]
      have := hbl ((List.range len).map D) ((List.range (m - len)).map fun j => D (len + j))
      simpa using this
    · obtain ⟨i, hi, rfl⟩ := List.mem_map.1 ho
      have hi' : i < len := by simpa using hi
      rw [hd]
      exact hB _ _ _ (hbe _ _ _ (List.mem_map.2 ⟨i, hi, rfl⟩)) (hg i hi').2
end Go.Proofs.Dm
