/- Part of the proof: contracts of the functions, walked by the D-machine. No condition. -/
import Derived.Test.YtcacihiiilemgaaEP1
set_option linter.unusedSimpArgs false
set_option linter.unusedVariables false
namespace Go.Proofs.Dm
open Go
def inR (r : Nat × Nat) (q : Nat) : Prop := r.1 ≤ q ∧ q < r.1 + r.2
def apart (r s : Nat × Nat) : Prop := r.1 + r.2 ≤ s.1 ∨ s.1 + s.2 ≤ r.1
structure BInv (fr : List Bool) (L : List (Nat × Nat)) : Prop where
  len : fr.length = 200
  ok : ∀ r ∈ L, 1 ≤ r.2 ∧ r.1 + r.2 ≤ 200
  disj : L.Pairwise apart
  free : ∀ q, q < 200 → (fr.getD q false = true ↔ ∀ r ∈ L, ¬ inR r q)
theorem BInv.take {fr : List Bool} {L : List (Nat × Nat)} {n p : Nat} (I : BInv fr L) (hn : 1 ≤ n) (hp : leastAt fr n p) : BInv (setP 5 fr (5 + p) n false) (L ++ [(p, n)]) := by
  have ha := (take_some (at_ := 5) hn hp).2.2
  have h1 := hp.1
  rw [I.len] at h1
  refine ⟨by rw [setP_len]; exact I.len, fun r hr => ?_, ?_, fun q hq => ?_⟩
  · rcases List.mem_append.1 hr with hr | hr
    · exact I.ok r hr
    · simp only [List.mem_singleton] at hr; subst hr; exact ⟨hn, h1⟩
  · refine List.pairwise_append.2 ⟨I.disj, by simp, fun r hr s hs => ?_⟩
    simp only [List.mem_singleton] at hs; subst hs
    have hro := I.ok r hr
    unfold apart
    simp only
    rcases Nat.lt_or_ge p (r.1 + r.2) with hlt | hge
    · rcases Nat.lt_or_ge r.1 (p + n) with hlt2 | hge2
      · exfalso
        -- they meet at the greater beginning
        have hq : ∃ q, inR r q ∧ p ≤ q ∧ q < p + n := by
          rcases Nat.le_total p r.1 with h | h
          · exact ⟨r.1, ⟨Nat.le_refl _, by omega⟩, h, hlt2⟩
          · exact ⟨p, ⟨h, hlt⟩, Nat.le_refl _, by omega⟩
        obtain ⟨q, q1, q2, q3⟩ := hq
        have ht := hp.2.1 (q - p) (by omega)
        have e : p + (q - p) = q := by omega
        rw [e] at ht
        exact (I.free q (by omega)).1 ht r hr q1
      · exact .inr hge2
    · exact .inl hge
  · rw [setP_getD (b := false) ha]
    have e : ((5 : Int) + (p : Int) - 5).toNat = p := by omega
    rw [e, Int.toNat_natCast]
    by_cases hin : p ≤ q ∧ q < p + n
    · rw [if_pos hin]
      simp only [Bool.false_eq_true, false_iff]
      intro h
      exact h (p, n) (by simp) hin
    · rw [if_neg hin, I.free q hq]
      constructor
      · intro h r hr
        rcases List.mem_append.1 hr with hr | hr
        · exact h r hr
        · simp only [List.mem_singleton] at hr; subst hr; exact hin
      · intro h r hr
        exact h r (by simp [hr])
theorem setP_no {at_ a l : Int} {fr : List Bool} {b : Bool} (h : allP at_ fr a l (!b) = false) : setP at_ fr a l b = fr := by
  unfold setP
  rw [if_neg (by rw [h]; simp)]
theorem BInv.give {fr : List Bool} {L : List (Nat × Nat)} {k : Nat} {r : Nat × Nat} (I : BInv fr L) (hr : L[k]? = some r) :
    allP 5 fr (5 + (r.1 : Int)) (r.2 : Int) false = true ∧ allP 5 (setP 5 fr (5 + (r.1 : Int)) (r.2 : Int) true) (5 + (r.1 : Int)) (r.2 : Int) false = false ∧
      setP 5 (setP 5 fr (5 + (r.1 : Int)) (r.2 : Int) true) (5 + (r.1 : Int)) (r.2 : Int) true = setP 5 fr (5 + (r.1 : Int)) (r.2 : Int) true ∧ BInv (setP 5 fr (5 + (r.1 : Int)) (r.2 : Int) true) (L.take k ++ L.drop (k + 1)) := by
  have hmem := List.mem_of_getElem? hr
  obtain ⟨h1, h2⟩ := I.ok r hmem
  have e : ((5 : Int) + (r.1 : Int) - 5).toNat = r.1 := by omega
  have ha : allP 5 fr (5 + (r.1 : Int)) (r.2 : Int) false = true := by
    rw [allP_iff]
    refine ⟨by omega, by omega, by rw [I.len]; omega, fun j hj => ?_⟩
    rw [e]
    cases hc : fr.getD (r.1 + j) false with
    | false => rfl
    | true => exact absurd ⟨by omega, by omega⟩ ((I.free (r.1 + j) (by omega)).1 hc r hmem)
  have hg : ∀ q, (setP 5 fr (5 + (r.1 : Int)) (r.2 : Int) true).getD q false = if r.1 ≤ q ∧ q < r.1 + r.2 then true else fr.getD q false := fun q => by
    rw [setP_getD (b := true) ha, e, Int.toNat_natCast]
  have hb : allP 5 (setP 5 fr (5 + (r.1 : Int)) (r.2 : Int) true) (5 + (r.1 : Int)) (r.2 : Int) false = false := by
    cases hc : allP 5 (setP 5 fr (5 + (r.1 : Int)) (r.2 : Int) true) (5 + (r.1 : Int)) (r.2 : Int) false with
    | false => rfl
    | true =>
      rw [allP_iff] at hc
      have := hc.2.2.2 0 (by omega)
      rw [e, hg, if_pos (by omega)] at this
      cases this
  refine ⟨ha, hb, ?_, ?_⟩
  · exact setP_no (b := true) hb
  · have hsplit : L = L.take k ++ r :: L.drop (k + 1) := by
      obtain ⟨hk, er⟩ := List.getElem?_eq_some_iff.1 hr
      rw [← er]
      conv => lhs; rw [← List.take_append_drop k L, List.drop_eq_getElem_cons hk]
    have hd := I.disj
    rw [hsplit] at hd
    obtain ⟨d1, d2, d3⟩ := List.pairwise_append.1 hd
    obtain ⟨d4, d5⟩ := List.pairwise_cons.1 d2
    have hsub : ∀ s, s ∈ L ↔ s = r ∨ s ∈ L.take k ++ L.drop (k + 1) := fun s => by
      conv => lhs; rw [hsplit]
      simp only [List.mem_append, List.mem_cons]
      constructor
      · rintro (h | h | h)
        · exact .inr (.inl h)
        · exact .inl h
        · exact .inr (.inr h)
      · rintro (h | h | h)
        · exact .inr (.inl h)
        · exact .inl h
        · exact .inr (.inr h)
    refine ⟨by rw [setP_len]; exact I.len, fun s hs => I.ok s ((hsub s).2 (.inr hs)), List.pairwise_append.2 ⟨d1, d5, fun a ha b hb => d3 a ha b (List.mem_cons_of_mem _ hb)⟩, fun q hq => ?_⟩
    rw [hg]
    by_cases hin : r.1 ≤ q ∧ q < r.1 + r.2
    · rw [if_pos hin]
      simp only [true_iff]
      intro s hs hsq
      have hap : apart s r ∨ apart r s := by
        rcases List.mem_append.1 hs with h | h
        · exact .inl (d3 s h r (by simp))
        · exact .inr (d4 s h)
      unfold apart inR at *
      omega
    · rw [if_neg hin, I.free q hq]
      constructor
      · intro h s hs; exact h s ((hsub s).2 (.inr hs))
      · intro h s hs
        rcases (hsub s).1 hs with e | e
        · subst e; exact hin
        · exact h s e
theorem BInv.full {fr : List Bool} (I : BInv fr []) : fr = List.replicate 200 true := by
  refine ext_getD (by rw [I.len, List.length_replicate]) fun q hq => ?_
  rw [I.len] at hq
  rw [(I.free q hq).2 (by simp), List.getD_eq_getElem?_getD, List.getElem?_replicate, if_pos hq]
  rfl
theorem spans_full {at_ : Int} {n : Nat} (hn : 0 < n) : spansP at_ (List.replicate n true) = [(at_, (n : Int))] := by
  have key : ∀ i, i ≤ n → spansN at_ (List.replicate n true) i = if i = 0 then [] else [(at_, (i : Int))] := by
    intro i
    induction i with
    | zero => intro _; rfl
    | succ i ih =>
      intro hi
      have hg : ∀ q, q < n → (List.replicate n true).getD q false = true := fun q hq => by
        rw [List.getD_eq_getElem?_getD, List.getElem?_replicate, if_pos hq]; rfl
      simp only [spansN]
      rw [if_neg (by rw [hg i (by omega)]; simp), ih (by omega)]
      by_cases h0 : i = 0
      · subst h0; simp
      · rw [if_pos ⟨by omega, hg (i - 1) (by omega)⟩, if_neg h0, if_neg (by omega)]
        simp [bump]
  have := key n (Nat.le_refl _)
  unfold spansP
  rw [List.length_replicate, this, if_neg (by omega)]
end Go.Proofs.Dm
