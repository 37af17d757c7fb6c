/- Part of the proof: contracts of the functions, walked by the D-machine. No condition. -/
import Derived.Test.YtcacihiiilemgaaE7
set_option linter.unusedSimpArgs false
set_option linter.unusedVariables false
namespace Go.Proofs.Dm
open Go
def allT (fr : List Bool) (p n : Nat) : Prop := ∀ k, k < n → fr.getD (p + k) false = true
structure SInv (at_ : Int) (fr : List Bool) (i : Nat) (L : List Sp) : Prop where
  run : ∀ r ∈ L, ∃ p n : Nat, r = (at_ + p, (n : Int)) ∧ 1 ≤ n ∧ p + n ≤ i ∧ allT fr p n ∧ (p + n = i ∨ fr.getD (p + n) false = false)
  cover : ∀ q, q < i → fr.getD q false = true → ∃ p n : Nat, (at_ + (p : Int), (n : Int)) ∈ L ∧ p ≤ q ∧ q < p + n
  sorted : L.Pairwise fun r s => r.1 + r.2 < s.1
  last : 0 < i → fr.getD (i - 1) false = true → ∃ l, ∃ p n : Nat, L = l ++ [(at_ + (p : Int), (n : Int))] ∧ p + n = i
theorem sinv (at_ : Int) (fr : List Bool) : ∀ i, SInv at_ fr i (spansN at_ fr i)
  | 0 => ⟨by simp [spansN], by simp, by simp [spansN], by simp⟩
  | i + 1 => by
    have ih := sinv at_ fr i
    have hfacts := (spansN_facts at_ fr i).1
    simp only [spansN]
    split
    · rename_i hf
      refine ⟨fun r hr => ?_, fun q hq hq2 => ?_, ih.sorted, fun _ hl => ?_⟩
      · obtain ⟨p, n, h1, h2, h3, h4, h5⟩ := ih.run r hr
        refine ⟨p, n, h1, h2, by omega, h4, .inr ?_⟩
        rcases h5 with h5 | h5
        · rw [h5]; exact hf
        · exact h5
      · have : q ≠ i := fun e => by rw [e, hf] at hq2; cases hq2
        exact ih.cover q (by omega) hq2
      · simp only [Nat.add_sub_cancel] at hl; rw [hf] at hl; cases hl
    · rename_i hf
      have hf : fr.getD i false = true := by simpa using hf
      split
      · rename_i hp
        obtain ⟨l, p, n, e, hpn⟩ := ih.last hp.1 hp.2
        rw [e] at ih ⊢
        rw [bump_app]
        have hr0 := ih.run (at_ + p, (n : Int)) (by simp)
        obtain ⟨p', n', h1, h2, h3, h4, h5⟩ := hr0
        have hpp : p' = p ∧ n' = n := by
          simp only [Prod.mk.injEq] at h1
          omega
        obtain ⟨rfl, rfl⟩ := hpp
        refine ⟨fun r hr => ?_, fun q hq hq2 => ?_, ?_, fun _ _ => ⟨l, p', n' + 1, by simp, by omega⟩⟩
        · rcases List.mem_append.1 hr with hr | hr
          · obtain ⟨p2, n2, k1, k2, k3, k4, k5⟩ := ih.run r (by simp [hr])
            refine ⟨p2, n2, k1, k2, by omega, k4, .inr ?_⟩
            rcases k5 with k5 | k5
            · exfalso
              have hs := List.pairwise_append.1 ih.sorted
              have := hs.2.2 r hr (at_ + p', (n' : Int)) (by simp)
              rw [k1] at this
              simp only at this
              omega
            · exact k5
          · simp only [List.mem_singleton] at hr
            subst hr
            refine ⟨p', n' + 1, by simp, by omega, by omega, fun k hk => ?_, .inl (by omega)⟩
            by_cases hkn : k < n'
            · exact h4 k hkn
            · have : p' + k = i := by omega
              rw [this]; exact hf
        · by_cases hqi : q = i
          · exact ⟨p', n' + 1, by simp, by omega, by omega⟩
          · obtain ⟨p2, n2, k1, k2, k3⟩ := ih.cover q (by omega) hq2
            rcases List.mem_append.1 k1 with k1 | k1
            · exact ⟨p2, n2, by simp [k1], k2, k3⟩
            · simp only [List.mem_singleton, Prod.mk.injEq] at k1
              exact ⟨p', n' + 1, by simp, by omega, by omega⟩
        · have hs := List.pairwise_append.1 ih.sorted
          refine List.pairwise_append.2 ⟨hs.1, by simp, fun r hr s hs' => ?_⟩
          simp only [List.mem_singleton] at hs'
          subst hs'
          exact hs.2.2 r hr (at_ + p', (n' : Int)) (by simp)
      · rename_i hp
        refine ⟨fun r hr => ?_, fun q hq hq2 => ?_, ?_, fun _ _ => ⟨spansN at_ fr i, i, 1, by simp, rfl⟩⟩
        · rcases List.mem_append.1 hr with hr | hr
          · obtain ⟨p2, n2, k1, k2, k3, k4, k5⟩ := ih.run r hr
            refine ⟨p2, n2, k1, k2, by omega, k4, .inr ?_⟩
            rcases k5 with k5 | k5
            · exfalso
              apply hp
              refine ⟨by omega, ?_⟩
              have := k4 (n2 - 1) (by omega)
              have e : p2 + (n2 - 1) = i - 1 := by omega
              rw [e] at this; exact this
            · exact k5
          · simp only [List.mem_singleton] at hr
            subst hr
            refine ⟨i, 1, by simp, by omega, by omega, fun k hk => ?_, .inl rfl⟩
            have : i + k = i := by omega
            rw [this]; exact hf
        · by_cases hqi : q = i
          · exact ⟨i, 1, by simp, by omega, by omega⟩
          · obtain ⟨p2, n2, k1, k2, k3⟩ := ih.cover q (by omega) hq2
            exact ⟨p2, n2, by simp [k1], k2, k3⟩
        · refine List.pairwise_append.2 ⟨ih.sorted, by simp, fun r hr s hs' => ?_⟩
          simp only [List.mem_singleton] at hs'
          subst hs'
          obtain ⟨p2, n2, k1, k2, k3, k4, k5⟩ := ih.run r hr
          rw [k1]
          simp only
          have : p2 + n2 ≠ i := fun e => by
            apply hp
            refine ⟨by omega, ?_⟩
            have := k4 (n2 - 1) (by omega)
            have e2 : p2 + (n2 - 1) = i - 1 := by omega
            rw [e2] at this; exact this
          omega
/-- Where n in a row are free first. -/
def leastAt (fr : List Bool) (n p : Nat) : Prop := p + n ≤ fr.length ∧ allT fr p n ∧ ∀ q, q + n ≤ fr.length → allT fr q n → p ≤ q
theorem inRun {at_ : Int} {fr : List Bool} {n q : Nat} (hn : 1 ≤ n) (hq : q + n ≤ fr.length) (ht : allT fr q n) : ∃ p m : Nat, (at_ + (p : Int), (m : Int)) ∈ spansP at_ fr ∧ p ≤ q ∧ n ≤ m := by
  have S := sinv at_ fr fr.length
  obtain ⟨p, m, h1, h2, h3⟩ := S.cover q (by omega) (by simpa using ht 0 (by omega))
  obtain ⟨p', m', k1, k2, k3, k4, k5⟩ := S.run _ h1
  have hpp : p' = p ∧ m' = m := by simp only [Prod.mk.injEq] at k1; omega
  obtain ⟨rfl, rfl⟩ := hpp
  refine ⟨p', m', h1, h2, ?_⟩
  rcases Nat.lt_or_ge (p' + m') (q + n) with hlt | hge
  · exfalso
    rcases k5 with k5 | k5
    · omega
    · have := ht (p' + m' - q) (by omega)
      have e : q + (p' + m' - q) = p' + m' := by omega
      rw [e, k5] at this; cases this
  · omega
theorem first_some {at_ : Int} {fr : List Bool} {n : Nat} {r : Sp} (hn : 1 ≤ n) (h : firstS (spansP at_ fr) n = some r) : ∃ p : Nat, r.1 = at_ + p ∧ leastAt fr n p := by
  have S := sinv at_ fr fr.length
  unfold firstS at h
  rw [if_pos (by omega)] at h
  obtain ⟨h1, l1, l2, h2, h3⟩ := List.find?_eq_some_iff_append.1 h
  have hmem : r ∈ spansP at_ fr := by rw [h2]; simp
  obtain ⟨p, m, k1, k2, k3, k4, k5⟩ := S.run r hmem
  have hnm : n ≤ m := by
    have : (n : Int) ≤ r.2 := by simpa using h1
    rw [k1] at this; simp only at this; omega
  refine ⟨p, by rw [k1], by omega, fun k hk => k4 k (by omega), fun q hq ht => ?_⟩
  obtain ⟨p2, m2, g1, g2, g3⟩ := inRun (at_ := at_) hn hq ht
  rw [h2] at g1
  rcases List.mem_append.1 g1 with g1 | g1
  · have := h3 _ g1
    simp at this; omega
  · rcases List.mem_cons.1 g1 with g1 | g1
    · rw [← g1] at k1
      simp only [Prod.mk.injEq] at k1
      omega
    · have hs : (spansP at_ fr).Pairwise fun r s => r.1 + r.2 < s.1 := S.sorted
      rw [h2] at hs
      have := (List.pairwise_cons.1 (List.pairwise_append.1 hs).2.1).1 _ g1
      rw [k1] at this
      simp only at this
      omega
theorem first_none {at_ : Int} {fr : List Bool} {n : Nat} (hn : 1 ≤ n) (h : firstS (spansP at_ fr) n = none) (q : Nat) (hq : q + n ≤ fr.length) : ¬ allT fr q n := by
  intro ht
  unfold firstS at h
  rw [if_pos (by omega)] at h
  obtain ⟨p2, m2, g1, g2, g3⟩ := inRun (at_ := at_) hn hq ht
  have := List.find?_eq_none.1 h _ g1
  simp at this; omega
theorem leastAt_unique {fr : List Bool} {n p q : Nat} (a : leastAt fr n p) (b : leastAt fr n q) : p = q :=
  Nat.le_antisymm (a.2.2 q b.1 b.2.1) (b.2.2 p a.1 a.2.1)

theorem getD_fill {fr : List Bool} {off n : Nat} {b : Bool} (h : off + n ≤ fr.length) (q : Nat) : (fillN fr off n b).getD q false = if off ≤ q ∧ q < off + n then b else fr.getD q false := by
  unfold fillN
  simp only [List.getD_eq_getElem?_getD]
  by_cases h1 : q < off
  · rw [if_neg (by omega), List.append_assoc, List.getElem?_append_left (by simp; omega), List.getElem?_take, if_pos h1]
  · by_cases h2 : q < off + n
    · rw [if_pos ⟨by omega, h2⟩, List.getElem?_append_left (by simp; omega), List.getElem?_append_right (by simp; omega), List.getElem?_replicate, if_pos (by simp; omega)]
      rfl
    · rw [if_neg (by omega), List.getElem?_append_right (by simp; omega), List.getElem?_drop]
      congr 2
      simp; omega
theorem hasB_false {l : List Bool} {b : Bool} : hasB l (!b) = false ↔ ∀ k, k < l.length → l.getD k false = b := by
  rw [hasB_eq]
  constructor
  · intro h k hk
    rw [List.getD_eq_getElem?_getD, List.getElem?_eq_getElem hk]
    have hm := List.getElem_mem hk
    have hn : ¬ ((!b) ∈ l) := by simpa using h
    have : l[k] ≠ (!b) := fun e => hn (by rw [← e]; exact hm)
    simp only [Option.getD_some]
    cases b <;> cases hq : l[k] <;> simp_all
  · intro h
    have hn : ¬ ((!b) ∈ l) := fun hm => by
      obtain ⟨k, hk, e⟩ := List.mem_iff_getElem.1 hm
      have := h k hk
      rw [List.getD_eq_getElem?_getD, List.getElem?_eq_getElem hk] at this
      simp only [Option.getD_some] at this
      rw [e] at this
      cases b <;> simp at this
    simpa using hn
theorem allP_iff {at_ a l : Int} {fr : List Bool} {b : Bool} : allP at_ fr a l b = true ↔ 1 ≤ l ∧ at_ ≤ a ∧ a - at_ + l ≤ fr.length ∧ ∀ k : Nat, (k : Int) < l → fr.getD ((a - at_).toNat + k) false = b := by
  unfold allP
  split
  · simp; omega
  · split
    · simp; omega
    · split
      · simp; omega
      · split
        · simp; omega
        · rename_i h1 h2 h3 h4
          have hl : ((fr.drop (a - at_).toNat).take l.toNat).length = l.toNat := by simp; omega
          have key : ∀ k, k < l.toNat → ((fr.drop (a - at_).toNat).take l.toNat).getD k false = fr.getD ((a - at_).toNat + k) false := fun k hk => by
            simp only [List.getD_eq_getElem?_getD]
            rw [List.getElem?_take, if_pos hk, List.getElem?_drop]
          simp only [Bool.not_eq_true']
          rw [hasB_false, hl]
          constructor
          · intro h
            exact ⟨by omega, by omega, by omega, fun k hk => by rw [← key k (by omega)]; exact h k (by omega)⟩
          · rintro ⟨_, _, _, h⟩ k hk
            rw [key k hk]; exact h k (by omega)
theorem setP_getD {at_ a l : Int} {fr : List Bool} {b : Bool} (h : allP at_ fr a l (!b) = true) (q : Nat) :
    (setP at_ fr a l b).getD q false = if (a - at_).toNat ≤ q ∧ q < (a - at_).toNat + l.toNat then b else fr.getD q false := by
  obtain ⟨h1, h2, h3, h4⟩ := allP_true h
  unfold setP
  rw [if_pos h]
  exact getD_fill (by omega) q
theorem setP_len {at_ a l : Int} {fr : List Bool} {b : Bool} : (setP at_ fr a l b).length = fr.length := by
  unfold setP
  split
  · rename_i h
    obtain ⟨h1, h2, h3, h4⟩ := allP_true h
    exact fillN_len (by omega)
  · rfl
theorem ext_getD {a b : List Bool} (hl : a.length = b.length) (h : ∀ q, q < a.length → a.getD q false = b.getD q false) : a = b := by
  refine List.ext_getElem hl fun q h1 h2 => ?_
  have := h q h1
  simpa [List.getD_eq_getElem?_getD, List.getElem?_eq_getElem h1, List.getElem?_eq_getElem h2] using this
/-- What a taking comes to. -/
theorem take_some {at_ : Int} {fr : List Bool} {n p : Nat} (hn : 1 ≤ n) (hp : leastAt fr n p) : takeR at_ fr n = .tup [.agg [i64 (at_ + p), i64 n], bl true] ∧ takeF at_ fr n = setP at_ fr (at_ + p) n false ∧ allP at_ fr (at_ + p) n true = true := by
  have hall : allP at_ fr (at_ + p) n true = true := by
    rw [allP_iff]
    have := hp.1
    refine ⟨by omega, by omega, by omega, fun k hk => ?_⟩
    have e : (at_ + (p : Int) - at_).toNat + k = p + k := by omega
    rw [e]; exact hp.2.1 k (by omega)
  unfold takeR takeF
  cases h : firstS (spansP at_ fr) n with
  | none => exact absurd hp.2.1 (first_none hn h p hp.1)
  | some r =>
    obtain ⟨p', e, hp'⟩ := first_some hn h
    have := leastAt_unique hp hp'
    subst this
    simp only [e, hall]
    exact ⟨trivial, trivial, trivial⟩
theorem take_none {at_ : Int} {fr : List Bool} {n : Int} (h : n < 1 ∨ ∀ q, q + n.toNat ≤ fr.length → ¬ allT fr q n.toNat) : takeR at_ fr n = .tup [.agg [i64 0, i64 0], bl false] ∧ takeF at_ fr n = fr := by
  have hn : firstS (spansP at_ fr) n = none := by
    by_cases h1 : 1 ≤ n
    · have h2 := h.resolve_left (by omega)
      cases hc : firstS (spansP at_ fr) n with
      | none => rfl
      | some r =>
        have e : n = ((n.toNat : Nat) : Int) := by omega
        rw [e] at hc
        obtain ⟨p, _, hp⟩ := first_some (by omega) hc
        exact absurd hp.2.1 (h2 p hp.1)
    · unfold firstS; rw [if_neg h1]
  unfold takeR takeF
  rw [hn]
  exact ⟨rfl, rfl⟩
end Go.Proofs.Dm
