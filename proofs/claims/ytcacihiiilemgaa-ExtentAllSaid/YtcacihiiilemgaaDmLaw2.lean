/- The D-machine, part Law2: slices of numbers among a law's arguments. -/
import Derived.Test.YtcacihiiilemgaaDmLaw
import Derived.ChangeSlices
set_option linter.unusedVariables false
namespace Go.Proofs.Dm
open Go Go.RowKit Go.ChangeShapes Go.WideShapes

theorem rep_ints {W : World} {a : Addr} {len cap : Nat} {zs : List Int} (hcell : ∀ i, i < zs.length → W.cell? (a.add i) = some (.int .i64 (zs.getD i 0))) (hl : len ≤ zs.length) (hc : len ≤ cap) :
    Rep W (allMark W) (.sl 1 ((zs.take len).map fun x => [.int .i64 x])) (.slice (some a) len cap) := by
  have hlen : ((zs.take len).map fun x => [PD.int .i64 x]).length = len := by simp; omega
  simp only [Rep]
  rcases Nat.eq_zero_or_pos len with h0 | h0
  · subst h0
    exact .inl ⟨by simp, some a, cap, rfl, by simp⟩
  · right
    obtain ⟨b, off, spot⟩ := a
    have hspot : spot = none := by
      have := hcell 0 (by omega)
      cases spot with
      | none => rfl
      | some s =>
        simp [World.cell?, Addr.add] at this
        split at this <;> simp at this
    subst hspot
    have hc' : ∀ i, i < zs.length → W.cell? ⟨b, off + i, none⟩ = some (.int .i64 (zs.getD i 0)) := fun i hi => by
      have := hcell i hi
      rwa [addr_add] at this
    refine ⟨b, off, cap, by rw [hlen], by rw [hlen]; exact hc, ?_, ?_, ?_⟩
    · rw [hlen]
      have := hc' (len - 1) (by omega)
      unfold allMark
      simp only [World.cell?] at this
      cases hb : W.heap[b]? with
      | none => rw [hb] at this; simp at this
      | some o =>
        rw [hb] at this
        cases o <;> simp at this
        rename_i cs T f
        have := (Array.getElem?_eq_some_iff.1 this).1
        simp only; omega
    · intro x hx
      obtain ⟨y, _, rfl⟩ := List.mem_map.1 hx
      rfl
    · refine RepRows.of_get (size := 1) (fun x hx => by obtain ⟨y, _, rfl⟩ := List.mem_map.1 hx; rfl) fun i x hx => ?_
      rw [List.getElem?_map] at hx
      obtain ⟨y, hy, rfl⟩ := Option.map_eq_some_iff.1 hx
      have hi := (List.getElem?_eq_some_iff.1 hy).1
      simp at hi
      rw [List.getElem?_take, if_pos (by omega)] at hy
      simp only [RepRow, Rep]
      refine ⟨⟨_, ?_, rfl⟩, trivial⟩
      have := hc' i (by omega)
      simp only [Nat.mul_one, Nat.add_zero]
      rw [this, List.getD_eq_getElem?_getD, hy]; rfl

theorem rep_of_trod {H : Type} {enc : TypeId × Value → H} {P : Program} {W : World} {t e : TypeId} {v : Value} {d : DataW H} {p : List MemPlace} (ht : P.underlying t = some (.slice e)) (he : P.underlying e = some (.int .i64)) (hc : P.cellsOf e = 1)
    (hv : ∃ a l c, v = .slice a l c) (h : DataW.Trod enc P W 0 (fun _ => true) true t v d p) : ∃ xs : List Int, Rep W (allMark W) (.sl 1 (xs.map fun x => [.int .i64 x])) v := by
  obtain ⟨a0, l0, c0, rfl⟩ := hv
  obtain ⟨fuel, hf⟩ := h
  rcases open_ints ht he hc hf with ⟨hcs, _⟩ | ⟨a, len, cap, zs, hcs, _, h1, h2, h3, _, h4, _⟩
  · simp [Value.cells] at hcs
    obtain ⟨rfl, rfl, rfl⟩ := hcs
    exact ⟨[], by simp only [Rep]; exact .inl ⟨rfl, none, 0, rfl, fun _ => rfl⟩⟩
  · simp [Value.cells] at hcs
    obtain ⟨rfl, rfl, rfl⟩ := hcs
    simp only [if_true] at h3
    exact ⟨zs.take l0, rep_ints h4 (by omega) h1⟩
end Go.Proofs.Dm
