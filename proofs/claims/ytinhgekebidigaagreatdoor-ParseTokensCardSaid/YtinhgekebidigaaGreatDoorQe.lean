/- Part of the proof: contracts of the functions, walked by the D-machine. No condition. -/
import Derived.Test.YtinhgekebidigaaGreatDoorQc
import Derived.Test.YtinhgekebidigaaGreatDoorHd
set_option linter.unusedSimpArgs false
set_option linter.unusedVariables false
set_option maxHeartbeats 8000000
set_option maxRecDepth 100000
namespace Go.Proofs.Dm
open Go Go.Proofs Go.Proofs.Tryz Go.Proofs.Dm.Sc
namespace Pq
open Gr
attribute [local simp] encT encN encNs takes handsOn isTmp Op.operands Call.operands
theorem tmod_nat {a : Int} {n : Nat} (ha : 0 ≤ a) (hn : 0 < n) : ∃ k : Nat, k < n ∧ a.tmod (n : Int) = (k : Int) := by
  obtain ⟨m, rfl⟩ := Int.eq_ofNat_of_zero_le ha
  exact ⟨m % n, Nat.mod_lt _ hn, by rw [show ((m % n : Nat) : Int) = (m : Int) % (n : Int) from Int.natCast_emod m n]; exact Int.tmod_eq_emod_of_nonneg (by omega)⟩
/-- A word left out. -/
def outT (c : ByteArray) (p q : Nat) : ByteArray := c.extract 0 p ++ c.extract (min c.size (p + q)) c.size
def turnT (c w : ByteArray) (p : Nat) : ByteArray := c.extract 0 p ++ ⟨#[32]⟩ ++ w ++ ⟨#[32]⟩ ++ c.extract p c.size
theorem tokens_ok {W0 nb} {s word : ByteArray} {out turn : Int} (h2 : 2 ≤ nb) (hT : Lib.Utf8Tabs 0 1 W0) : DCalls ⟨Tryz.prog, W0, nb⟩ 6 [.p (.str s), i64 out, i64 turn, .p (.str word)] [] (.p (.bool true)) [] := by
  have hc := cutS_size s 600
  have hw0 := cutS_size word 10
  have sc := rscan_ok (W0 := W0) (nb := nb) (s := cutS s 600) (by omega)
  have hgood := fun h => scan_good (s := cutS s 600) (by omega) h
  have htb := @scan_tb (cutS s 600)
  generalize hcc : cutS s 600 = c at *
  generalize hww : cutS word 10 = w at *
  have hsame : same_ok (W0 := W0) (nb := nb) (s := c) h2 hT (by omega) = same_ok h2 hT (by omega) := rfl
  obtain ⟨R, hR⟩ : ∃ R, scanP c = R := ⟨_, rfl⟩
  rw [hR] at sc hgood htb
  obtain ⟨L, C, f⟩ := R
  simp only [Sc.toks, coms] at sc hgood htb
  refine dcalls_end Tryz.func6 rfl (by kernel_rfl) 104 Tryz.ntmps6 #[.tmp 8] rfl (Nat.le_of_ble_eq_true rfl) ?_
  simp
  refine CallGoal.same (begun_ok h2 hT) ?_
  simp
  refine CallGoal.same (cut_ok (n := 600) (by omega)) ?_
  rw [hcc]
  simp
  refine CallGoal.same (cut_ok (n := 10) (by omega)) ?_
  rw [hww]
  simp
  refine CallGoal.same sc ?_
  simp
  rcases Int.lt_or_le f 0 with hf | hf
  rotate_left
  · simp [hf]
    exact .keep (by simp) (.refl _) (by simp) (by simp) (by simp) (by simp)
  have hf' : ¬ 0 ≤ f := by omega
  rcases Int.lt_or_le out 0 with ho | ho
  · simp [hf', ho]
    exact .keep (by simp) (.refl _) (by simp) (by simp) (by simp) (by simp)
  have ho' : ¬ out < 0 := by omega
  rcases Int.lt_or_le turn 0 with hu | hu
  · simp [hf', ho', hu]
    exact .keep (by simp) (.refl _) (by simp) (by simp) (by simp) (by simp)
  have hu' : ¬ turn < 0 := by omega
  obtain ⟨hg, hk, hlen⟩ := hgood hf
  obtain ⟨a, ha, ea⟩ := tmod_nat ho hg.pos
  obtain ⟨b, hb, eb⟩ := tmod_nat hu hg.pos
  have hn0 : (L.length : Int) ≠ 0 := by have := hg.pos; omega
  have hn1 : ¬ L = [] := by
    intro h
    have := hg.pos
    rw [h] at this
    simp at this
  simp [hf', ho', hu']
  refine drawWp.intro [] [] mixed (by kernel_rfl) (by kernel_rfl) (by kernel_rfl) ?_
  try simp
  try simp [hn0, hn1, ea, eb]
  have ga : L[a]? = some L[a] := List.getElem?_eq_getElem ha
  have gb : L[b]? = some L[b] := List.getElem?_eq_getElem hb
  have ta := htb L[a] (List.getElem_mem ha)
  have tb := htb L[b] (List.getElem_mem hb)
  generalize hA : L[a] = A at *
  generalize hB : L[b] = B at *
  obtain ⟨ka, xa, pa, la, au⟩ := A
  obtain ⟨kb, xb, pb, lb, bu⟩ := B
  obtain ⟨ta1, ta2, ta3⟩ := ta
  obtain ⟨tb1, tb2, tb3⟩ := tb
  simp only at ta1 ta2 ta3 tb1 tb2 tb3
  obtain ⟨p, rfl⟩ := Int.eq_ofNat_of_zero_le ta1
  obtain ⟨q, rfl⟩ := Int.eq_ofNat_of_zero_le tb1
  have tp : p ≤ c.size := by omega
  have tq : q ≤ c.size := by omega
  have wp := w64_id (n := (p : Int) + (xa.size : Int)) (by omega) (by omega)
  simp only [w64] at wp
  have z0 : ¬ (9223372036854775807 : Int) < (p : Int) := by omega
  apply join (J := fun st => ∃ X : ByteArray, X.size ≤ 2000 ∧ st.hp = [] ∧ st.tm 0 = .p (.str c) ∧ st.tm 3 = .p (.str w) ∧ st.tm 10 = .p (.sl 5 (L.map encT)) ∧ st.tm 14 = i64 (b : Nat) ∧ st.tm 15 = .p (.str X))
  case main =>
    intro key
    rcases Nat.lt_or_ge c.size (p + xa.size) with hm | hm
    · have hm1 : (c.size : Int) < (p : Int) + (xa.size : Int) := by omega
      refine drawWp.intro [] [5, 14, 19] mixed (by kernel_rfl) (by kernel_rfl) (by kernel_rfl) ?_
      try simp
      try simp (maxSteps := 2000000) [ha, hb, ga, gb, hA, hB, tp, tq, wp, hm, hm1, z0]
      refine ⟨by simp [pairsOK, pairsOK2, compatAdd, compatCA, compatSt, Dm.stoB, Dm.callB, Dm.adB, compatDyn, lowOK, allLt, labD, skips, guardD, looksG, guardSlot, looksD, goneD, eatsT, eats, goneL, rdD, wrD, simpleD, anyOwn, disj, ldD, ldOK, mvD], by simp [pairsOK, pairsOK2, compatAdd, compatCA, compatSt, Dm.stoB, Dm.callB, Dm.adB, compatDyn, lowOK, allLt, labD, skips, guardD, looksG, guardSlot, looksD, goneD, eatsT, eats, goneL, rdD, wrD, simpleD, anyOwn, disj, ldD, ldOK, mvD], ?_⟩
      try simp
      try simp [ha, ga, hA]
      cases au with
      | true =>
        try simp
        exact key _ ⟨c, by omega, by simp, by simp, by simp, by simp, by simp, by simp⟩
      | false =>
        try simp
        exact key _ ⟨c.extract 0 p, by simp; omega, by simp, by simp, by simp, by simp, by simp, by simp⟩
    · have hm1 : ¬ (c.size : Int) < (p : Int) + (xa.size : Int) := by omega
      have hm2 : ¬ c.size < p + xa.size := by omega
      have hm3 : (p : Int) + (xa.size : Int) ≤ (c.size : Int) := by omega
      have hm4 : (0 : Int) ≤ (p : Int) + (xa.size : Int) := by omega
      have e5 : ((p : Int) + (xa.size : Int)).toNat = p + xa.size := by omega
      have z1 : ¬ (9223372036854775807 : Int) < (p : Int) + ((c.size - (p + xa.size) : Nat) : Int) := by omega
      refine drawWp.intro [] [5, 14, 19] mixed (by kernel_rfl) (by kernel_rfl) (by kernel_rfl) ?_
      try simp
      try simp (maxSteps := 2000000) [ha, hb, ga, gb, hA, hB, tp, tq, wp, hm1, hm2, hm3, hm4, e5, z0, z1]
      refine ⟨by simp [pairsOK, pairsOK2, compatAdd, compatCA, compatSt, Dm.stoB, Dm.callB, Dm.adB, compatDyn, lowOK, allLt, labD, skips, guardD, looksG, guardSlot, looksD, goneD, eatsT, eats, goneL, rdD, wrD, simpleD, anyOwn, disj, ldD, ldOK, mvD], by simp [pairsOK, pairsOK2, compatAdd, compatCA, compatSt, Dm.stoB, Dm.callB, Dm.adB, compatDyn, lowOK, allLt, labD, skips, guardD, looksG, guardSlot, looksD, goneD, eatsT, eats, goneL, rdD, wrD, simpleD, anyOwn, disj, ldD, ldOK, mvD], ?_⟩
      try simp
      try simp [ha, ga, hA]
      cases au with
      | true =>
        try simp
        exact key _ ⟨c, by omega, by simp, by simp, by simp, by simp, by simp, by simp⟩
      | false =>
        try simp
        exact key _ ⟨c.extract 0 p ++ c.extract (p + xa.size) c.size, by simp; omega, by simp, by simp, by simp, by simp, by simp, by simp⟩
  case key =>
    rintro ⟨tm, hp⟩ ⟨X, hX, h0, g0, g3, g10, g14, g15⟩
    simp only at h0 g0 g3 g10 g14 g15
    subst h0
    obtain ⟨sp, hsp⟩ : ∃ sp : Nat, (⟨#[32]⟩ : ByteArray).size = sp := ⟨_, rfl⟩
    have hsp1 : sp = 1 := by rw [← hsp]; rfl
    have y1 : ¬ (9223372036854775807 : Int) < (q : Int) + (((⟨#[32]⟩ : ByteArray).size : Nat) : Int) := by omega
    have y2 : ¬ (9223372036854775807 : Int) < (q : Int) + (((⟨#[32]⟩ : ByteArray).size : Nat) : Int) + (w.size : Int) := by omega
    have y3 : ¬ (9223372036854775807 : Int) < (q : Int) + (((⟨#[32]⟩ : ByteArray).size : Nat) : Int) + (w.size : Int) + (((⟨#[32]⟩ : ByteArray).size : Nat) : Int) := by omega
    have y4 : ¬ (9223372036854775807 : Int) < (q : Int) + (((⟨#[32]⟩ : ByteArray).size : Nat) : Int) + (w.size : Int) + (((⟨#[32]⟩ : ByteArray).size : Nat) : Int) + ((c.size - q : Nat) : Int) := by omega
    refine drawWp.intro [] [5, 16] mixed (by kernel_rfl) (by kernel_rfl) (by kernel_rfl) ?_
    try simp
    try simp (maxSteps := 2000000) [g0, g3, g10, g14, g15, hb, gb, hB, tq, y1, y2, y3, y4]
    refine ⟨by simp [pairsOK, pairsOK2, compatAdd, compatCA, compatSt, Dm.stoB, Dm.callB, Dm.adB, compatDyn, lowOK, allLt, labD, skips, guardD, looksG, guardSlot, looksD, goneD, eatsT, eats, goneL, rdD, wrD, simpleD, anyOwn, disj, ldD, ldOK, mvD, g0, g3, g10, g14, g15], by simp [pairsOK, pairsOK2, compatAdd, compatCA, compatSt, Dm.stoB, Dm.callB, Dm.adB, compatDyn, lowOK, allLt, labD, skips, guardD, looksG, guardSlot, looksD, goneD, eatsT, eats, goneL, rdD, wrD, simpleD, anyOwn, disj, ldD, ldOK, mvD, g0, g3, g10, g14, g15], ?_⟩
    try simp
    try simp [g15]
    refine CallGoal.same (same_ok h2 hT (by omega)) ?_
    simp [g15]
    refine CallGoal.same (same_ok h2 hT ?_) ?_
    · simp only [ByteArray.size_append, ByteArray.size_extract]; omega
    simp
    exact .keep (by simp) (.refl _) (by simp) (by simp) (by simp) (by simp)
end Pq
end Go.Proofs.Dm
