/- Part of the proof: contracts of the functions, walked by the D-machine. No condition. -/
import Derived.Test.YtinhgekebidigaaDoorJL5
set_option linter.unusedSimpArgs false
set_option linter.unusedVariables false
set_option maxHeartbeats 16000000
set_option maxRecDepth 100000
namespace Go.Proofs.Dm
open Go Go.Proofs Go.Proofs.Tryd Go.Proofs.Dm.Sc
namespace Pl
open Gr
attribute [local simp] encT encN encNs takes handsOn isTmp Op.operands Call.operands
def sC (i : Nat) : Nat → ByteArray
  | 0 => ⟨#[97]⟩
  | k + 1 => sC i k ++ ((⟨#[32]⟩ ++ opAt i) ++ ⟨#[32, 98]⟩)
theorem sC_size (i : Nat) : ∀ k, (sC i k).size ≤ 1 + 5 * k
  | 0 => by show (1 : Nat) ≤ 1; omega
  | k + 1 => by
    have e1 : (⟨#[32]⟩ : ByteArray).size = 1 := rfl
    have e2 : (⟨#[32, 98]⟩ : ByteArray).size = 2 := rfl
    have h1 := opAt_size i
    have h2 := sC_size i k
    simp only [sC, ByteArray.size_append, e1, e2]; omega
theorem sC_list (i : Nat) : ∀ k m, (sC i k).data.toList ++ chB (opAt i).data.toList m = 97 :: chB (opAt i).data.toList (k + m)
  | 0, m => by rw [Nat.zero_add]; rfl
  | k + 1, m => by
    have h := sC_list i k (m + 1)
    rw [show k + 1 + m = k + (m + 1) by omega, ← h]
    simp [sC, chB, ByteArray.data_append]
def chI (n : Nat) (i : Int) (ii : Nat) (D : DV) (m : Nat) (st : St) : Prop := ∃ j : Nat, m = n - j ∧ j ≤ n ∧ st.hp = [] ∧ st.tm 0 = i64 (n : Nat) ∧ st.tm 1 = i64 i ∧ st.tm 6 = D ∧ st.tm 7 = .p (.str (sC ii j)) ∧ st.tm 8 = i64 (j : Nat)
def chJ (n : Nat) (ii : Nat) (st : St) : Prop := st.hp = [] ∧ st.tm 0 = i64 (n : Nat) ∧ st.tm 7 = .p (.str (sC ii n))
def chL (n : Nat) (m : Nat) (st : St) : Prop := ∃ (j : Nat) (y : Nd), m = n - j ∧ j ≤ n ∧ chNd (n - j) y ∧ st.hp = [(encN y).map .p] ∧ st.tm 0 = i64 (n : Nat) ∧ st.tm 9 = .ref 0 0 ∧ st.tm 11 = .p (.bool true) ∧ st.tm 12 = i64 (j : Nat)
def chM (n : Nat) (st : St) : Prop := ∃ t : Int, st.hp = [(encN (.mk 20 t [])).map .p] ∧ st.tm 0 = i64 (n : Nat) ∧ st.tm 9 = .ref 0 0 ∧ st.tm 11 = .p (.bool true) ∧ st.tm 12 = i64 (n : Nat)
theorem chain_ok {W0 nb} (h2 : 2 ≤ nb) (hT : Lib.Utf8Tabs 0 1 W0) {n i : Int} : DCalls ⟨Tryd.prog, W0, nb⟩ 4 [i64 n, i64 i] [] (.p (.bool true)) [] := by
  obtain ⟨ii, hi, ei, wi⟩ := mod8 i
  simp only [w64] at wi
  obtain ⟨ra1, ra2⟩ := List.getElem?_eq_some_iff.1 (opsRow ii hi)
  refine dcalls_end Tryd.func4 rfl (by kernel_rfl) 82 Tryd.ntmps4 #[.tmp 4] rfl (Nat.le_of_ble_eq_true rfl) ?_
  simp
  refine CallGoal.same (begun_ok h2 hT) ?_
  simp
  cases h1 : decide (n < 1) with
  | true =>
    have h1' := of_decide_eq_true h1
    simp [h1']
    exact .keep (by simp) (.refl _) (by simp) (by simp) (by simp) (by simp)
  | false =>
  have h1' := of_decide_eq_false h1
  simp [h1']
  cases h8 : decide (60 < n) with
  | true =>
    have h8' := of_decide_eq_true h8
    simp [h8']
    exact .keep (by simp) (.refl _) (by simp) (by simp) (by simp) (by simp)
  | false =>
  have h8' := of_decide_eq_false h8
  obtain ⟨k, rfl⟩ : ∃ k : Nat, n = (k : Int) := ⟨n.toNat, by omega⟩
  simp [h8']
  refine LoopGoal.cut (chJ k ii) ?_ ?_
  · refine ⟨chI k i ii _, k, .here ⟨0, by simp, by simp, by simp, by simp, by simp, by simp; rfl, by simp [sC], by simp⟩, ?_⟩
    rintro m ⟨tm, hp⟩ ⟨j, rfl, hj, h0, g0, g1, g6, g7, g8⟩
    simp only at h0 g0 g1 g6 g7 g8
    subst h0
    simp [g0, g8]
    rcases Nat.lt_or_ge j k with hlt | hge
    · have hs := sC_size ii j
      have ho := opAt_size ii
      have hw := w64_id (n := (j : Int) + 1) (by omega) (by omega)
      simp only [w64] at hw
      have e1 : (⟨#[32]⟩ : ByteArray).size = 1 := rfl
      have e2 : (⟨#[32, 98]⟩ : ByteArray).size = 2 := rfl
      have w1 : ¬ (9223372036854775807 : Int) < ((⟨#[32]⟩ : ByteArray).size : Int) + (opAt ii).size := by rw [e1]; omega
      have w2 : ¬ (9223372036854775807 : Int) < (((⟨#[32]⟩ : ByteArray) ++ opAt ii).size : Int) + (⟨#[32, 98]⟩ : ByteArray).size := by simp only [ByteArray.size_append, e1, e2]; omega
      have w3 : ¬ (9223372036854775807 : Int) < ((sC ii j).size : Int) + (((⟨#[32]⟩ : ByteArray) ++ opAt ii) ++ (⟨#[32, 98]⟩ : ByteArray)).size := by simp only [ByteArray.size_append, e1, e2]; omega
      simp only [ByteArray.size_append, Int.natCast_add] at w2 w3
      simp [hlt, g1, g6, g7, g8, wi, ei, hi, ra2, w1, w2, w3, hw]
      exact .same (k - (j + 1)) (by omega) ⟨j + 1, rfl, by omega, by simp, by simp [g0], by simp [g1], by simp [g6], by simp [sC], by simp [hw]⟩
    · have : j = k := by omega
      subst this
      simp
      exact ⟨by simp, by simp [g0], by simp [g7]⟩
  rintro ⟨tm, hp⟩ ⟨e0, g0, g7⟩
  simp only at e0 g0 g7
  subst e0
  have hs := sC_size ii k
  have hsz : (preT ++ sC ii k ++ nlT).size ≤ 2000 := by
    have e1 : preT.size = 22 := rfl
    have e2 : nlT.size = 1 := rfl
    simp only [ByteArray.size_append, e1, e2]; omega
  have hlist : (preT ++ sC ii k ++ nlT).data.toList = preT.data.toList ++ 97 :: chB (opAt ii).data.toList k := by
    have h := sC_list ii k 0
    rw [Nat.add_zero] at h
    rw [← h]
    simp [ByteArray.data_append, nlT, chB]
  obtain ⟨e, l, heq, hnd, hlen⟩ := chain_eval hi (N := 100) (n := 10) (k := k) (by omega) (by omega) hlist hsz
  have ce := expr_ok (W0 := W0) (nb := nb) h2 hT (s := sC ii k) (by omega) (by decide) (by omega) heq
  simp [g7]
  refine CallGoal.same ce ?_
  obtain ⟨y0, y1, y2⟩ := e
  simp
  refine LoopGoal.cut (chM k) ?_ ?_
  · refine ⟨chL k, k, .here ⟨0, .mk y0 y1 y2, by simp, by simp, by simpa using hnd, by simp, by simp [g0], by simp, by simp, by simp⟩, ?_⟩
    rintro m ⟨tm, hp⟩ ⟨j, y, rfl, hj, ht, h0, g0, g9, g11, g12⟩
    simp only at h0 g0 g9 g11 g12
    subst h0
    rcases Nat.lt_or_ge j k with hlt | hge
    · have hw := w64_id (n := (j : Int) + 1) (by omega) (by omega)
      simp only [w64] at hw
      rw [show k - j = (k - (j + 1)) + 1 by omega] at ht
      obtain ⟨t, c, u, rfl, ht'⟩ := ht
      obtain ⟨c0, c1, c2⟩ := c
      simp [g9, g11, g12, hw]
      exact .same (k - (j + 1)) (by omega) ⟨j + 1, .mk c0 c1 c2, rfl, by omega, ht', by simp, by simp [g0], by simp [g9], by simp [g11], by simp [hw]⟩
    · have : j = k := by omega
      subst this
      rw [Nat.sub_self] at ht
      obtain ⟨t, rfl⟩ := ht
      simp [g9, g11, g12]
      exact ⟨t, by simp, by simp [g0], by simp [g9], by simp [g11], by simp [g12]⟩
  rintro ⟨tm, hp⟩ ⟨t, h0, g0, g9, g11, g12⟩
  simp only at h0 g0 g9 g11 g12
  subst h0
  simp [g0, g9, g11, g12]
  exact .keep (by simp) (.refl _) (by simp) (by simp) (by simp) (by simp)
end Pl
end Go.Proofs.Dm
